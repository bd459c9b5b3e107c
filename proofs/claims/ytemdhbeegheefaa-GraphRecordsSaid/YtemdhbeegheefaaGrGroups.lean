
/- 'Groups', walked. No condition. -/
import Derived.Test.YtemdhbeegheefaaGrFrom
import Derived.Test.YtemdhbeegheefaaGrRows
import Derived.Test.YtemdhbeegheefaaGrMap
import Derived.Test.YtemdhbeegheefaaGrMake
import Derived.Test.YtemdhbeegheefaaGrNd
import Derived.Test.YtemdhbeegheefaaGrReg2
import Derived.BigRegion
import Derived.Deep.RegionHeld3
import Derived.Deep.AppendLies
import Derived.Deep.DeepCutAuto
import Derived.Deep.CutBlock
namespace Go.Proofs.Ytemdhbeegheefaa
open Go.RowKit Gr

/-- Rows of the grid, in a row of the call's own: they lie apart. -/
theorem Gw.og {w : World} {B b many B0 : Nat} {vs : List Value} {f : Nat → List Nat} (h : Gw w B b vs (tb many f)) {oc : List Nat} (hoc : ∀ c ∈ oc, c < many) {B2 T : Nat} {vo : Value} (ho : w.ownsRow B2 T 1 vo oc.length (oc.map fun c => vs.getD c nilV)) (hT : 3 ≠ T) (h2 : B0 ≤ B2) (h1 : B0 ≤ B) : Og w B0 T vo ((oc.map f).map nn) := by
  refine ⟨_, by simpa using own_mono ho h2, fun i u l hu hl => ?_⟩
  rw [List.getElem?_map] at hu
  rw [List.map_map, List.getElem?_map] at hl
  cases hc : oc[i]? with
  | none => rw [hc] at hu; cases hu
  | some c =>
    rw [hc] at hu hl
    injection hu with hu
    injection hl with hl
    have hcm := hoc c (List.mem_of_getElem? hc)
    have hvl : c < vs.length := by rw [h.len, tb_len]; exact hcm
    have hv : vs[c]? = some u := by
      rw [← hu]
      show vs[c]? = some (vs[c]?.getD nilV)
      rw [List.getElem?_eq_getElem hvl]
      rfl
    rw [← hl]
    refine ⟨h.ri hv (tb_get hcm), fun b hb => ?_⟩
    have h3 := h.lt hv b hb
    exact ⟨h3.2, own_apart2 (h.row c u _ hv (tb_get hcm)) ho hT b hb, by omega⟩

set_option maxRecDepth 20000 in
set_option maxHeartbeats 40000000 in
/-- 'Groups'. -/
theorem groupsO_any (g : G) (vg : Value) (w : World) (hg : Rg w vg g) (hn : g.length ≤ 1000) (hl : ∀ l ∈ g, l.length ≤ 1000) :
    Calls Try.prog 10 #[vg] w fun e w' => ∃ v, e = .returned v ∧ Og w' w.heap.size 23 v ((groups g).map nn) ∧ Below w.heap.size w w' := by
  have HG := Lib.hid hg
  have HL := Lib.hid hl
  obtain ⟨ag, cg, rfl⟩ := hg.shape
  clear hg hl
  go_enter Try.func10, Try.ntmps10
  go_upto_region 2 with fail
  go_cut [4] (fun s4 w' => ∃ A : At, s4 = .pointer (some ⟨A.f, 0, none⟩) ∧ Hid (Fd w' w.heap.size A g.length (.slice ag g.length cg) nilV (st0 g.length)) ∧ Hid (Below w.heap.size w w') ∧ Hid (w.heap.size ≤ A.f ∧ w.heap.size ≤ A.i ∧ w.heap.size ≤ A.l ∧ w.heap.size ≤ A.o ∧ w.heap.size ≤ A.g))
  case first =>
    --BEGIN 1
    refine reg2 hn ?_
    intro x28 x29 x30 x31 x32 x33 x34 x35 x36 x37 x38 A w' hf hb ha
    go_wp2_with fail
    go_meet
    exact ⟨A, rfl, Lib.hid hf, Lib.hid hb, Lib.hid ha⟩
    --END 1
  case rest =>
    obtain ⟨A, rfl, HF, HB, HA⟩ := hcut
    go_upto_block 0 with fail
    go_cut [4] (fun s4 w' => s4 = .pointer (some ⟨A.f, 0, none⟩) ∧ ∃ vs s, Hid (Fd w' w.heap.size A g.length (.slice ag g.length cg) vs s) ∧ Hid (Gd g s []) ∧ Hid (Below w.heap.size w w') ∧ Hid (∀ x, x < g.length → s.idx.getD x 0 ≠ 0))
    case first =>
      --BEGIN 2
      as_aux_lemma =>
        go_wp2_with fail
        have HFS := Lib.hid (show Gd g (st0 g.length) [] from ⟨by
          have e : ∀ (n x : Nat), (List.replicate n 0).getD x 0 = 0 := fun n x => by simp [List.getD_eq_getElem?_getD, List.getElem?_replicate]; split <;> rfl
          have e2 : ∀ (n x : Nat), (List.replicate n false).getD x false = false := fun n x => by simp [List.getD_eq_getElem?_getD, List.getElem?_replicate]; split <;> rfl
          show Inv g _ _ _ _ [] 0 0 []
          simp only [st0, e, e2]
          exact Inv.start g, by simp [st0, List.countP_replicate], by simp [st0], by simp [st0], by simp [st0], by simp [st0], by simp [st0]⟩)
        go_loopg [41] (g.length - 0) (fun n v41 wr => ∃ (i : Nat) (vs : Value) (s : St), v41 = .int .i64 i ∧ Hid (i ≤ g.length ∧ g.length - i = n) ∧ Hid (Fd wr w.heap.size A g.length (.slice ag g.length cg) vs s) ∧ Hid (Gd g s []) ∧ Hid (Below w.heap.size w wr) ∧ Hid (∀ x, x < i → s.idx.getD x 0 ≠ 0))
        case atStart => exact ⟨0, nilV, st0 g.length, rfl, Lib.hid ⟨Nat.zero_le _, rfl⟩, HF, HFS, HB, Lib.hid fun x hx => by omega⟩
        case round =>
          clear HF HFS HB
          obtain ⟨i, vs, s, rfl, HI, HF, HGD, HB, HX⟩ := hrel
          by_cases hi : i < g.length
          · have hii : (i : Int) < (g.length : Int) := by omega
            have z1 := HF.out.box.cell (i := 1) rfl
            have i1 := HF.out.ri.cell (nn_at _ i (by rw [HF.out.li]; exact hi))
            have HGB : Hid (Gb _ w.heap.size (.slice ag g.length cg) g) := Lib.hid ⟨w, HG.out, HB.out, Nat.le_refl _⟩
            obtain ⟨z, hz⟩ : ∃ z, z = s.idx[i]'(by rw [HF.out.li]; exact hi) := ⟨_, rfl⟩
            have HZ : Hid (s.idx.getD i 0 = z) := Lib.hid (by rw [hz]; simp [HF.out.li, hi])
            rw [← hz] at i1
            clear hz
            rcases Nat.eq_zero_or_pos z with h0 | h0
            · subst h0
              have HFR := Lib.hid (from_any w.heap.size A g (.slice ag g.length cg) vs s i _ HF.out HGB.out HGD.out HA.out (by omega) (fun l hl => by have := HL.out l hl; omega) hi HZ.out)
              go_wp2_with fail
              (with_reducible refine HFR.out.mono ?_); rintro e w2 ⟨rfl, vs2, s2, f2, gd2, k2, n2, x2, y2⟩
              have HF2 := Lib.hid f2
              have HGD2 := Lib.hid gd2
              have HB2 := Lib.hid (HB.out.trans (k2.below (fun j hj => by
                obtain ⟨a1, a2, a3, a4, a5⟩ := HA.out
                rcases hj with rfl | rfl | rfl | rfl | rfl | hj
                · exact a1
                · exact a2
                · exact a3
                · exact a4
                · exact a5
                · exact (HF.out.stk.lt _ hj).1) HB.out.size))
              have HX2 : Hid (∀ x, x < i + 1 → s2.idx.getD x 0 ≠ 0) := Lib.hid fun x hx => by
                rcases Nat.lt_or_eq_of_le (Nat.le_of_lt_succ hx) with h | h
                · exact x2 x (HX.out x h)
                · rw [h]; exact y2
              clear f2 gd2 k2 n2 x2 y2 z1 i1 HFR HGB HF HGD HB HX HZ
              go_wp2_with fail
              go_roundg (g.length - (i + 1))
              case measure => have := HI.out.2; omega
              case rel => exact ⟨i + 1, vs2, s2, by simp, Lib.hid ⟨hi, rfl⟩, HF2, HGD2, HB2, HX2⟩
            · have hzz : ((z : Int) == 0) = false := by simp; omega
              go_wp2_with fail
              go_roundg (g.length - (i + 1))
              case measure => have := HI.out.2; omega
              case rel => exact ⟨i + 1, vs, s, by simp, Lib.hid ⟨hi, rfl⟩, HF, HGD, HB, Lib.hid fun x hx => by
                rcases Nat.lt_or_eq_of_le (Nat.le_of_lt_succ hx) with h | h
                · exact HX.out x h
                · rw [h, HZ.out]; omega⟩
          · obtain rfl : i = g.length := by have := HI.out.1; omega
            go_wp2_with fail
            go_meet
            exact ⟨rfl, vs, s, HF, HGD, HB, HX⟩
      --END 2
    case rest =>
      obtain ⟨rfl, vs, s, HF, HGD, HB, HX⟩ := hcut
      rename World => w1
      obtain ⟨gp, hgp⟩ : ∃ gp : Nat → Nat, gp = fun v => s.grp.getD v 0 := ⟨_, rfl⟩
      have HC : Hid (Cls g gp s.many) := Lib.hid (by rw [hgp]; exact HGD.out.cls HX.out)
      have HGP : Hid (∀ v, gp v = s.grp.getD v 0) := Lib.hid fun v => by rw [hgp]
      have hml : s.many ≤ 1000 := by have := HC.out.le; omega
      clear hgp HGD HX HA
      have x7 := HF.out.box.cell (i := 7) rfl
      have x7a : ∀ o, (w1.alloc o).cell? ⟨A.f, 7, none⟩ = some (.int .i64 s.many) := fun o => (HF.out.alloc o).box.cell (i := 7) rfl
      go_upto_region 9 with fail
      go_cut [6, 7] (fun v6 v7 w' => ∃ bn ba : Nat, v6 = .slice (some ⟨bn, 0, none⟩) s.many s.many ∧ v7 = .slice (some ⟨ba, 0, none⟩) s.many s.many ∧ Hid (Ro w' bn 23 (List.replicate s.many nilV)) ∧ Hid (Ro w' ba 3 (ints (nn (List.replicate s.many 0)))) ∧ Hid (w1.heap.size ≤ bn ∧ w1.heap.size ≤ ba ∧ bn < w'.heap.size ∧ ba < w'.heap.size) ∧ Hid (Kw w1 w' (fun _ => False)))
      case first =>
        --BEGIN 3
        as_aux_lemma =>
          have hmi := mkInts s.many (by omega)
          have hmg := mkGrid s.many (by omega)
          go_region
          all_goals (
            go_wp2_with fail
            go_meet
            obtain ⟨W, hW, q0, q1, q2, q3⟩ := two w1 _ _
            rw [← hW]
            clear hW
            exact ⟨_, _, rfl, rfl, Lib.hid (Ro.nils (by first | exact q0 | exact q1)), Lib.hid (Ro.zeros (by first | exact q0 | exact q1)), Lib.hid ⟨by omega, by omega, by omega, by omega⟩, Lib.hid q3⟩)
        --END 3
      case rest =>
        obtain ⟨bn, ba, rfl, rfl, HN, HAH, HBA, HK1⟩ := hcut
        rename World => w2
        have HF2 := Lib.hid (HF.out.kw HK1.out id id id id id fun _ _ => id)
        have HB2 := Lib.hid (HB.out.trans (HK1.out.below (fun _ h => h.elim) HB.out.size))
        have HGW := Lib.hid (Gw.made (B := w2.heap.size) HN.out)
        have HNE := Lib.hid (⟨HF2.out.box.ne HN.out (by decide), HF2.out.rg.ne HN.out (by decide), HAH.out.ne HN.out (by decide)⟩ : A.f ≠ bn ∧ A.g ≠ bn ∧ ba ≠ bn)
        have HGA := Lib.hid (show A.g ≠ ba from by have := HF.out.rg.lt; have := HBA.out; omega)
        clear x7 x7a HF HK1 HN
        have x6 := HF2.out.box.cell (i := 6) rfl
        go_upto_block 2 with fail
        go_cut [4] (fun s4 w' => s4 = .pointer (some ⟨A.f, 0, none⟩) ∧ ∃ vn, Hid (Gw w' w2.heap.size bn vn (tb s.many (nd g gp))) ∧ Hid (Kw w2 w' (fun j => j = bn ∨ w2.heap.size ≤ j)))
        case first =>
          --BEGIN 4
          as_aux_lemma =>
            clear x6
            go_wp2_with fail
            have HRG := Lib.hid HF2.out.rg
            have HBN := Lib.hid (show A.g ≠ bn from HF2.out.rg.ne HGW.out.out (by decide))
            have HLG := Lib.hid HF2.out.lg
            go_loopg [71] (g.length - 0) (fun n v71 wr => ∃ (i : Nat) (vn : List Value), v71 = .int .i64 i ∧ Hid (i ≤ g.length ∧ g.length - i = n) ∧ Hid (Gw wr w2.heap.size bn vn (tb s.many (ndf gp i))) ∧ Hid (Kw w2 wr (fun j => j = bn ∨ w2.heap.size ≤ j)))
            case atStart => exact ⟨0, _, rfl, Lib.hid ⟨Nat.zero_le _, rfl⟩, Lib.hid (by rw [ndf_zero]; exact HGW.out), Lib.hid (Kw.refl _ _)⟩
            case round =>
              clear HGW
              obtain ⟨i, vn, rfl, HI, HGW, HK⟩ := hrel
              by_cases hi : i < g.length
              · have hii : (i : Int) < (g.length : Int) := by omega
                have i1 := (HRG.out.kw HK.out (by rintro (h | h); exact HBN.out h; have := HRG.out.lt; omega)).cell (nn_at s.grp i (by rw [HLG.out]; exact hi))
                obtain ⟨c, hc⟩ : ∃ c, c = s.grp[i]'(by rw [HLG.out]; exact hi) := ⟨_, rfl⟩
                have HCI : Hid (gp i = c) := Lib.hid (by rw [HGP.out, hc]; simp [HLG.out, hi])
                rw [← hc] at i1
                clear hc
                have hcm : c < s.many := HCI.out ▸ HC.out.lt i hi
                have hcc : (c : Int) < (s.many : Int) := by omega
                obtain ⟨v, hv, c1, hrow⟩ := HGW.out.get (tb_get (f := ndf gp i) hcm)
                obtain ⟨av, cv, rfl⟩ := own_shape hrow
                have hlen : (ndf gp i c).length ≤ 1000 := by have := ndf_len gp i c; omega
                have hsz : w2.heap.size ≤ wr.heap.size := HK.out.size
                have HVV := Lib.hid hv
                clear hv
                go_wp2_with (first
                  | (at_builtin; refine wp_app2 tyInts rfl _ _ rfl w2.heap.size hrow rfl rfl rfl rfl (by intro u hu; simp at hu; rw [hu]; rfl) (by omega) (by omega) hsz ?_; intro v3 w3 o3 b3 q3 n3; have k3 := Kw.of_grown q3; have r4 := (HGW.out.out.kw k3 (HGW.out.ne HVV.out)).cell HVV.out; have f4 := (HGW.out.out.kw k3 (HGW.out.ne HVV.out)).free c; have H6 := Lib.hid (HGW.out.step (l' := ndf gp i c ++ [i]) HVV.out (tb_get hcm) k3 n3 (by rw [List.length_append, show nn (ndf gp i c ++ [i]) = nn (ndf gp i c) ++ [(i : Int)] by simp, ints_snoc]; exact o3)); have HK6 := Lib.hid ((HK.out.trans k3 (fun j _ (e : (Value.slice av (ndf gp i c).length cv).ownBlock = some j) => Or.inr (HGW.out.lt HVV.out j e).1)).trans (Kw.set w3 bn c v3) fun j _ e => Or.inl e); obtain ⟨a3, c3, rfl⟩ := own_shape o3; clear o3 b3 q3 n3 k3)
                  | fail)
                go_roundg (g.length - (i + 1))
                case measure => have := HI.out.2; omega
                case rel => exact ⟨i + 1, _, by simp, Lib.hid ⟨hi, rfl⟩, Lib.hid (by have h9 := H6.out; rw [← HCI.out, ndf_step] at h9; rw [← HCI.out]; exact h9), HK6⟩
              · obtain rfl : i = g.length := by have := HI.out.1; omega
                go_wp2_with fail
                go_meet
                exact ⟨rfl, vn, HGW, HK⟩
          --END 4
        case rest =>
          obtain ⟨rfl, vn, HGW3, HK2⟩ := hcut
          rename World => w3
          have HFX := Lib.hid (HF2.out.box.kw HK2.out (by rintro (h | h); exact HNE.out.1 h; have := HF2.out.box.lt; omega))
          have HFG := Lib.hid (HF2.out.rg.kw HK2.out (by rintro (h | h); exact HNE.out.2.1 h; have := HF2.out.rg.lt; omega))
          have HLG := Lib.hid HF2.out.lg
          have HA3 := Lib.hid (HAH.out.kw HK2.out (by rintro (h | h); exact HNE.out.2.2 h; have := HBA.out; omega))
          have HB3 := Lib.hid (HB2.out.trans (HK2.out.below (by have := HBA.out; have := HB.out.size; rintro j (h | h) <;> omega) HB2.out.size))
          have HNB := Lib.hid (show ba ≠ bn from HNE.out.2.2)
          have HFB := Lib.hid (HFX.out.ne HA3.out (by decide))
          have HRW3 : Hid (∀ (i : Nat) (v : Value), vn[i]? = some v → ∀ x, v.ownBlock = some x → w2.heap.size ≤ x ∧ x < w3.heap.size) := Lib.hid fun i v hv x hx => HGW3.out.lt hv x hx
          have hmm := @run_makeMap Try.prog
          have HEM := Lib.hid (Em.made w3)
          have HBW : Hid (w.heap.size ≤ ba) := Lib.hid (by have := HBA.out; have := HB.out.size; omega)
          have HBA3 := Lib.hid (show bn < w3.heap.size ∧ ba < w2.heap.size ∧ w.heap.size ≤ w3.heap.size ∧ w2.heap.size ≤ w3.heap.size from by have := HBA.out; have := HK2.out.size; have := HB3.out.size; omega)
          clear x6 HF2 HGW HNE HAH HK2 HB2 HBA HB
          go_upto_block 4 with fail
          go_cut [10] (fun s10 w' => s10 = .map (some w3.heap.size) ∧ ∃ n, Hid (Em w' w3.heap.size n (fun a c => ∃ i j, E g i j ∧ gp i = a ∧ gp j = c ∧ a ≠ c)) ∧ Hid (n ≤ 1000000) ∧ Hid (Kw w3 w' (fun _ => False)))
          case first =>
            --BEGIN 5
            as_aux_lemma =>
              go_wp2_with fail
              obtain ⟨w4, hw4⟩ : ∃ w4, w4 = w3.alloc (.map #[] 0) := ⟨_, rfl⟩
              have HK34 : Hid (Kw w3 w4 (fun _ => False)) := Lib.hid (by rw [hw4]; exact Kw.alloc _ _ _)
              have HEM : Hid (Em w4 w3.heap.size 0 (fun _ _ => False)) := Lib.hid (by rw [hw4]; exact HEM.out)
              rw [← hw4]
              clear hw4
              have HE0 : Hid (Em w4 w3.heap.size 0 (Ep g gp 0 0)) := Lib.hid (HEM.out.congr fun a c => ⟨fun h => h.elim, fun h => (Ep_start g gp a c h).elim⟩)
              obtain ⟨bm, hbm⟩ : ∃ bm, bm = w3.heap.size := ⟨_, rfl⟩
              have HBM := Lib.hid hbm
              rw [← hbm] at HE0 ⊢
              clear hbm HEM
              go_loopg [90] (g.length - 0) (fun n v90 wr => ∃ (i m : Nat), v90 = .int .i64 i ∧ Hid (i ≤ g.length ∧ g.length - i = n ∧ m ≤ i * 1000) ∧ Hid (Em wr bm m (Ep g gp i 0)) ∧ Hid (Kw w3 wr (fun _ => False)))
              case atStart => exact ⟨0, 0, rfl, Lib.hid ⟨Nat.zero_le _, rfl, Nat.zero_le _⟩, HE0, HK34⟩
              case round =>
                clear HE0 HK34
                obtain ⟨i, m, rfl, HI, HE, HK⟩ := hrel
                by_cases hi : i < g.length
                · have hii : (i : Int) < (g.length : Int) := by omega
                  obtain ⟨b1, o1, u1, rfl, c1, r1, hb1, _⟩ := HG.out.at hi
                  have HBW := Lib.hid (HB3.out.trans (HK.out.below (fun _ h => h.elim) HB3.out.size))
                  have c1 := (HBW.out.cell (p := ⟨b1, o1 + i, none⟩) hb1).trans c1
                  obtain ⟨row, hrw⟩ : ∃ row, row = g[i] := ⟨_, rfl⟩
                  have HRL : Hid (row.length ≤ 1000) := Lib.hid (by rw [hrw]; exact HL.out _ (List.getElem_mem hi))
                  have HRW : Hid (g.getD i [] = row) := Lib.hid (by rw [hrw]; simp [hi])
                  rw [← hrw] at r1
                  clear hrw
                  have HRI := Lib.hid r1
                  obtain ⟨au, cu, rfl⟩ := r1.shape
                  clear r1
                  go_wp2_with fail
                  go_loopg [97] (row.length - 0) (fun n v97 wr2 => ∃ (j m2 : Nat), v97 = .int .i64 j ∧ Hid (j ≤ row.length ∧ row.length - j = n ∧ m2 ≤ m + j) ∧ Hid (Em wr2 bm m2 (Ep g gp i j)) ∧ Hid (Kw w3 wr2 (fun _ => False)))
                  case atStart => exact ⟨0, m, rfl, Lib.hid ⟨Nat.zero_le _, rfl, Nat.le_refl _⟩, HE, HK⟩
                  case round =>
                    clear HE HK HBW c1
                    obtain ⟨j, m2, rfl, HJ, HE, HK⟩ := hrel
                    have HBW := Lib.hid (HB3.out.trans (HK.out.below (fun _ h => h.elim) HB3.out.size))
                    by_cases hj : j < row.length
                    · have hjj : (j : Int) < (row.length : Int) := by omega
                      have hrl := HRL.out
                      obtain ⟨b3, o3, rfl, c3⟩ := (HRI.out.below' HBW.out).at hj
                      obtain ⟨z, hz⟩ : ∃ z, z = row[j] := ⟨_, rfl⟩
                      have HZ : Hid ((g.getD i [])[j]? = some z) := Lib.hid (by rw [HRW.out, hz]; simp [hj])
                      rw [← hz] at c3
                      clear hz
                      have hml2 : m2 ≤ 1001000 := by have := HI.out; have := HJ.out; have := HRL.out; omega
                      have HFXr := Lib.hid (HFX.out.kw HK.out id)
                      have HFGr := Lib.hid (HFG.out.kw HK.out id)
                      have hhas := fun w9 => has_any (some ⟨b1, o1, none⟩) g.length cg z w9
                      by_cases hz : 0 ≤ z ∧ z < (g.length : Int)
                      · rw [decide_eq_true hz.1, decide_eq_true hz.2] at hhas
                        have HHAS := Lib.hid hhas
                        obtain ⟨kk, rfl⟩ : ∃ kk : Nat, z = (kk : Int) := ⟨z.toNat, by omega⟩
                        have hkk : kk < g.length := by omega
                        have hki : (kk : Int) < (g.length : Int) := by omega
                        clear hhas hz
                        have i1 := HFGr.out.cell (nn_at _ i (by rw [HLG.out]; exact hi))
                        have i2 := HFGr.out.cell (nn_at _ kk (by rw [HLG.out]; exact hkk))
                        have x6 := HFXr.out.cell (i := 6) rfl
                        obtain ⟨ca, hca⟩ : ∃ ca, ca = s.grp[i]'(by rw [HLG.out]; exact hi) := ⟨_, rfl⟩
                        obtain ⟨cb, hcb⟩ : ∃ cb, cb = s.grp[kk]'(by rw [HLG.out]; exact hkk) := ⟨_, rfl⟩
                        have HCA : Hid (gp i = ca) := Lib.hid (by rw [HGP.out, hca]; simp [HLG.out, hi])
                        have HCB : Hid (gp kk = cb) := Lib.hid (by rw [HGP.out, hcb]; simp [HLG.out, hkk])
                        rw [← hca] at i1
                        rw [← hcb] at i2
                        clear hca hcb
                        have i1m : ∀ m, (wr.drewN m).cell? ⟨A.g, i, none⟩ = some (.int .i64 ca) := fun _ => i1
                        have i2m : ∀ m, (wr.drewN m).cell? ⟨A.g, kk, none⟩ = some (.int .i64 cb) := fun _ => i2
                        have x6m : ∀ m, (wr.drewN m).cell? ⟨A.f, 6, none⟩ = some (.slice (some ⟨A.g, 0, none⟩) g.length g.length) := fun _ => x6
                        by_cases hab : ca = cb
                        · subst hab
                          have hnn : (!((ca : Int) == (ca : Int))) = false := by simp
                          go_wp2_with fail
                          go_quiet (first | (go_at_call 25; refine Calls.quiet_of_same (HHAS.out _)) | fail)
                          revert nq; intro m1
                          go_wp2_with fail
                          go_roundg (row.length - (j + 1))
                          case measure => have := HJ.out.2.1; omega
                          case rel => exact ⟨j + 1, m2, by simp, Lib.hid ⟨hj, rfl, by have := HJ.out; omega⟩, Lib.hid ((HE.out.at (w' := wr.drewN m1) rfl).congr fun a c => Ep_skip g gp HZ.out (fun k hk hkn => by
                            obtain rfl : k = kk := by omega
                            rw [HCA.out, HCB.out]) a c), Lib.hid (HK.out.trans (Kw.drewN wr m1 _) fun _ _ => id)⟩
                        · have hnn : ((ca : Int) == (cb : Int)) = false := by simp; omega
                          go_wp2_with fail
                          go_quiet (first | (go_at_call 25; refine Calls.quiet_of_same (HHAS.out _)) | fail)
                          revert nq; intro m1
                          go_wp2_with fail
                          obtain ⟨W, hW⟩ : ∃ W, W = wr.drewN m1 := ⟨_, rfl⟩
                          have HKW : Hid (Kw w3 W (fun _ => False)) := Lib.hid (by rw [hW]; exact HK.out.trans (Kw.drewN wr m1 _) fun _ _ => id)
                          have HEW : Hid (Em W.drew bm m2 (Ep g gp i j)) := Lib.hid (by rw [hW]; exact HE.out.at rfl)
                          have i1 : W.cell? ⟨A.g, i, none⟩ = some (.int .i64 ca) := by rw [hW]; exact i1
                          have i2 : W.cell? ⟨A.g, kk, none⟩ = some (.int .i64 cb) := by rw [hW]; exact i2
                          have x6 : W.cell? ⟨A.f, 6, none⟩ = some (.slice (some ⟨A.g, 0, none⟩) g.length g.length) := by rw [hW]; exact x6
                          rw [← hW]
                          have hcal : ca ≤ 1000000 := by have := HCA.out ▸ HC.out.lt i hi; omega
                          have hcbl : cb ≤ 1000000 := by have := HCB.out ▸ HC.out.lt kk hkk; omega
                          obtain ⟨mv, v0, st, w8, w9, l1, e1, l2, s1, em9, g9⟩ := HEW.out.bump (by omega) ca cb hcal hcbl
                          have HEM9 := Lib.hid em9
                          have HG9 := Lib.hid g9
                          clear em9 g9 i1m i2m x6m hW
                          unfold ev at l1 e1 l2
                          go_region
                          clear l1 e1 l2 s1 i1 i2 x6
                          go_wp2_with fail
                          go_roundg (row.length - (j + 1))
                          case measure => have := HJ.out.2.1; omega
                          case rel => exact ⟨j + 1, m2 + 1, by simp, Lib.hid ⟨hj, rfl, by have := HJ.out; omega⟩, Lib.hid (HEM9.out.congr fun a c => by rw [← HCA.out, ← HCB.out]; exact Ep_add g gp hi hkk HZ.out (by rw [HCA.out, HCB.out]; exact hab) a c), Lib.hid ((HKW.out.trans (Kw.drewN W 1 (fun _ => False)) fun _ _ => id).trans (Kw.of_grown HG9.out) fun j hj e => by have := HBM.out; injection e with e; omega)⟩
                      · have hbf : (decide (0 ≤ z) && decide (z < (g.length : Int))) = false := by
                          rw [Bool.and_eq_false_iff, decide_eq_false_iff_not, decide_eq_false_iff_not]
                          exact Classical.not_and_iff_not_or_not.1 hz
                        rw [hbf] at hhas
                        have HHAS := Lib.hid hhas
                        have HNO := Lib.hid hz
                        clear hhas hz hbf
                        go_wp2_with fail
                        go_quiet (first | (go_at_call 25; refine Calls.quiet_of_same (HHAS.out _)) | fail)
                        revert nq; intro m1
                        go_wp2_with fail
                        go_roundg (row.length - (j + 1))
                        case measure => have := HJ.out.2.1; omega
                        case rel => exact ⟨j + 1, m2, by simp, Lib.hid ⟨hj, rfl, by have := HJ.out; omega⟩, Lib.hid ((HE.out.at (w' := wr.drewN m1) rfl).congr fun a c => Ep_skip g gp HZ.out (fun k hk hkn => absurd ⟨by omega, by omega⟩ HNO.out) a c), Lib.hid (HK.out.trans (Kw.drewN wr m1 _) fun _ _ => id)⟩
                    · obtain rfl : j = row.length := by have := HJ.out.1; omega
                      go_wp2_with fail
                      go_roundg (g.length - (i + 1))
                      case measure => have := HI.out.2.1; omega
                      case rel => exact ⟨i + 1, m2, by simp, Lib.hid ⟨hi, rfl, by have := HI.out; have := HJ.out; have := HRL.out; omega⟩, Lib.hid (HE.out.congr fun a c => Ep_next g gp (by rw [HRW.out]; exact Nat.le_refl _) a c), HK⟩
                · obtain rfl : i = g.length := by have := HI.out.1; omega
                  have hbm := HBM.out
                  subst hbm
                  go_wp2_with fail
                  go_meet
                  exact ⟨rfl, m, Lib.hid (HE.out.congr fun a c => Ep_all g gp a c), Lib.hid (by have := HI.out; omega), HK⟩
            --END 5
          case rest =>
            obtain ⟨rfl, n0, HEM, HN0, HK3⟩ := hcut
            rename World => w5
            have HFX5 := Lib.hid (HFX.out.kw HK3.out id)
            have HFG5 := Lib.hid (HFG.out.kw HK3.out id)
            have HA5 := Lib.hid (HA3.out.kw HK3.out id)
            have HGW5 := Lib.hid (HGW3.out.kw HK3.out id fun _ _ _ _ _ => id)
            have HB5 := Lib.hid (HB3.out.trans (HK3.out.below (fun _ h => h.elim) HB3.out.size))
            have HBA5 := Lib.hid (show bn < w5.heap.size ∧ ba < w2.heap.size ∧ w.heap.size ≤ w5.heap.size ∧ w2.heap.size ≤ w3.heap.size ∧ w3.heap.size < w5.heap.size from by
              obtain ⟨D, h, _⟩ := HEM.out
              have := h.lt; have := HBA3.out; omega)
            obtain ⟨D, hown, hD⟩ := HEM.out
            have HD := Lib.hid hD
            have HSD : Hid (Maps.size D ≤ 1000000) := Lib.hid (by have := hown.size_le; have := HN0.out; omega)
            have x7 := HFX5.out.cell (i := 7) rfl
            have hmg := mkGrid s.many (by omega)
            clear HFX HFG HA3 HGW3 HB3 HBA3 HK3 HEM hmm HN0 hD
            go_upto_block 8 with (first | (at_range; refine wpList_range_own _ rfl _ 49 rfl 52 3 edgeLaw Try.underlying49 _ w3.heap.size n0 D rfl (hown.alloc _) ?_; intro w7 hrg0 hg0 hs0; have HRG0 := Lib.hid hrg0; have HG0 := Lib.hid hg0; have HS0 := Lib.hid hs0; clear hrg0 hg0 hs0) | fail)
            clear hown x7 hmg
            go_frame
            simp only [alloc_size]
            go_cut [15] (fun s15 w' => s15 = .slice (some ⟨w5.heap.size, 0, none⟩) s.many s.many ∧ ∃ (ks : List (Nat × Nat)) (vl : List Value), Hid (Eds g gp ks) ∧ Hid (Ro w' ba 3 (ints (nn (tb s.many (cnt ks []))))) ∧ Hid (Gw w' (w5.heap.size + 2) w5.heap.size vl (tb s.many (ld ks))) ∧ Hid (Kw w5 w' (fun j => j = ba)) ∧ Hid (ks.length ≤ 1000000))
            case first =>
              --BEGIN 6
              as_aux_lemma =>
                obtain ⟨r5, hr5⟩ : ∃ r5, r5 = w5.heap.size := ⟨_, rfl⟩
                have HR5 := Lib.hid hr5
                have HK57 : Hid (Kw w5 w7 (fun _ => False)) := Lib.hid ((Kw.alloc w5 _ (fun _ => False)).trans (Kw.of_grown HG0.out) fun _ _ e => by cases e)
                have HS7 : Hid (w7.heap.size = w5.heap.size + 2) := Lib.hid (by have := HS0.out; simp at this; omega)
                have HGL7 : Hid (Gw w7 (w5.heap.size + 2) w5.heap.size (List.replicate s.many nilV) (tb s.many (ld []))) := Lib.hid (by
                  have h1 : Ro (w5.alloc (.cells (List.replicate s.many (Value.slice none 0 0)).toArray 23)) w5.heap.size 23 (List.replicate s.many nilV) := heap_alloc_new _ _
                  have h2 := (Gw.made (B := w5.heap.size + 2) h1).kw (Kw.of_grown HG0.out) (fun e => by cases e) (fun _ _ _ _ _ e => by cases e)
                  rw [replicate_tb (α := List Nat)] at h2
                  exact h2)
                have HA7 : Hid (Ro w7 ba 3 (ints (nn (tb s.many (cnt [] []))))) := Lib.hid (by
                  have h2 := HA5.out.kw HK57.out id
                  rw [replicate_tb (α := Nat)] at h2
                  exact h2)
                have HL0 : Hid (([] : List (Nat × Nat)).Nodup ∧ ∀ kl, Maps.has D kl = true ↔ ∃ a c : Nat, a ≤ 1000000 ∧ c ≤ 1000000 ∧ kl = ek a c ∧ (∃ i j, E g i j ∧ gp i = a ∧ gp j = c ∧ a ≠ c) ∧ (a, c) ∉ ([] : List (Nat × Nat))) := Lib.hid ⟨List.nodup_nil, fun kl => by rw [HD.out kl]; simp⟩
                have HRG0 : Hid (w7.ranges Try.prog 52 (plainElem Try.prog 3) w3.heap.size (r5 + 1) n0 D (Maps.has D) (Maps.size D)) := Lib.hid (by have := HRG0.out; simp only [alloc_size] at this; rw [hr5]; exact this)
                simp only [← hr5]
                have HGL7 : Hid (Gw w7 (r5 + 2) r5 (List.replicate s.many nilV) (tb s.many (ld []))) := Lib.hid (by rw [hr5]; exact HGL7.out)
                clear hr5
                go_wp2_with fail
                go_loopg [16] (Maps.size D) (fun n _ wr => ∃ (left : Lit → Bool) (ps : List (Nat × Nat)) (vl : List Value), Hid (wr.ranges Try.prog 52 (plainElem Try.prog 3) w3.heap.size (r5 + 1) n0 D left n) ∧
                  Hid (ps.Nodup ∧ ∀ kl, left kl = true ↔ ∃ a c : Nat, a ≤ 1000000 ∧ c ≤ 1000000 ∧ kl = ek a c ∧ (∃ i j, E g i j ∧ gp i = a ∧ gp j = c ∧ a ≠ c) ∧ (a, c) ∉ ps) ∧ Hid (∀ a c, (a, c) ∈ ps → ∃ i j, E g i j ∧ gp i = a ∧ gp j = c ∧ a ≠ c) ∧ Hid (ps.length + n ≤ Maps.size D) ∧
                  Hid (Ro wr ba 3 (ints (nn (tb s.many (cnt ps []))))) ∧ Hid (Gw wr (r5 + 2) r5 vl (tb s.many (ld ps))) ∧ Hid (Kw w5 wr (fun j => j = ba)) ∧ Hid (r5 + 2 ≤ wr.heap.size))
                case atStart => exact ⟨_, [], _, HRG0, HL0, Lib.hid (by simp), Lib.hid (by simp), HA7, HGL7, Lib.hid (HK57.out.mono fun _ h => h.elim), Lib.hid (by have := HS7.out; have := HR5.out; omega)⟩
                case round =>
                  clear HRG0 HL0 HA7 HGL7 HK57 HG0 HS0 HS7
                  obtain ⟨left, ps, vl, HRG, HPS, HPE, HPL, HAH, HGL, HK, HWS⟩ := hrel
                  have hrg := HRG.out
                  go_wp2_with (first
                    | (at_next; refine wpList_next_ranges _ rfl _ rfl 52 edgeLaw (plainElem Try.prog 3) (fun x : Int × Int => Value.agg #[.int .i64 x.1, .int .i64 x.2]) (fun c : Int => Value.int .i64 c) (fun key kl hk => by obtain ⟨x, rfl, _⟩ := ek_inv hk; exact ⟨x, rfl⟩) (fun v y hv => by obtain ⟨c, rfl, _⟩ := plainElem_int_inv Try.underlying3 hv; exact ⟨c, rfl⟩) w3.heap.size (r5 + 1) n0 _ _ _ rfl hrg ?_ ?_)
                    | fail)
                  · intro hc0 hl0
                    have HC0 := Lib.hid hc0
                    have HLF := Lib.hid hl0
                    have hr5 := HR5.out
                    clear hc0 hl0 hrg
                    subst hr5
                    go_wp2_with fail
                    go_meet
                    refine ⟨rfl, ps, vl, Lib.hid ⟨HPS.out.1, fun a c => ⟨HPE.out a c, fun he => Classical.byContradiction fun hno => ?_⟩⟩, HAH, HGL, HK, Lib.hid (by have := HPL.out; have := HSD.out; omega)⟩
                    obtain ⟨i, j, hE, e1, e2, e3⟩ := he
                    have h1 := HC.out.lt i hE.1
                    have h2 := HC.out.lt j hE.2.1
                    have := (HPS.out.2 (ek a c)).2 ⟨a, c, by omega, by omega, rfl, ⟨i, j, hE, e1, e2, e3⟩, hno⟩
                    rw [HLF.out] at this
                    cases this
                  · intro x1 x2 cv kl y yp w8 cnt1 hkey hlk hry hat hrg1 hlt hg1 hs3 hen
                    obtain ⟨ea, ec, hea, hec, rfl, hEd, hnp⟩ := (HPS.out.2 kl).1 hlk
                    have hxx := edgeLaw.inj hkey (ek_key (wfN hea) (wfN hec))
                    simp only [ev, Value.agg.injEq] at hxx
                    simp at hxx
                    obtain ⟨rfl, rfl⟩ := hxx
                    have HED := Lib.hid hEd
                    have HNP := Lib.hid hnp
                    have HRG1 := Lib.hid hrg1
                    have HLT := Lib.hid hlt
                    have HG1 := Lib.hid hg1
                    have HS3 := Lib.hid hs3
                    have hem : ea < s.many ∧ ec < s.many := by
                      obtain ⟨i, j, hE, rfl, rfl, _⟩ := HED.out
                      exact ⟨HC.out.lt i hE.1, HC.out.lt j hE.2.1⟩
                    clear hkey hlk hry hat hrg1 hlt hg1 hs3 hEd hnp hea hec hrg
                    go_upto_region 30 with fail
                    obtain ⟨e8, he8⟩ : ∃ e8, e8 = w8.heap.size := ⟨_, rfl⟩
                    obtain ⟨W9, hW9⟩ : ∃ W, W = w8.alloc (.cells #[.int .i64 (ea : Int), .int .i64 (ec : Int)] 52) := ⟨_, rfl⟩
                    have HE8 := Lib.hid he8
                    have hlt5 : ba < r5 := by have := HBA5.out; have := HR5.out; omega
                    have HE9 : Hid (Ro W9 e8 52 [.int .i64 (ea : Int), .int .i64 (ec : Int)]) := Lib.hid (by rw [hW9, he8]; exact heap_alloc_new _ _)
                    have HK89 : Hid (Kw wr W9 (fun j => j = r5 + 1)) := Lib.hid (by rw [hW9]; exact ((Kw.of_grown HG1.out).mono fun j e => by injection e with e; exact e.symm).trans (Kw.alloc w8 _ (fun j => j = r5 + 1)) fun _ _ => id)
                    have HA9 := Lib.hid (HAH.out.kw HK89.out (by omega))
                    have HGL9 := Lib.hid (HGL.out.kw HK89.out (by omega) fun i v hv x hx => by have := (HGL.out.lt hv x hx).1; omega)
                    have HRG9 : Hid (W9.ranges Try.prog 52 (plainElem Try.prog 3) w3.heap.size (r5 + 1) n0 D (fun z => left z && !z.sameKey (ek ea ec)) cnt1) := Lib.hid (by rw [hW9]; exact HRG1.out.alloc _)
                    have HS9 : Hid (r5 + 2 ≤ e8 ∧ e8 < W9.heap.size) := Lib.hid ⟨by have := HWS.out; have := HS3.out; omega, HE9.out.lt⟩
                    rw [← he8, ← hW9]
                    clear hW9 he8 HRG1 HG1 HAH HGL HRG
                    have v0 := HE9.out.cell (i := 0) rfl
                    have v1 := HE9.out.cell (i := 1) rfl
                    have a1 := HA9.out.cell (nn_at _ ec (by rw [tb_len]; exact hem.2))
                    have f1 := HA9.out.free ec
                    rw [show (tb s.many (cnt ps []))[ec]'(by rw [tb_len]; exact hem.2) = cnt ps [] ec by have h := tb_get (f := cnt ps []) hem.2; rw [List.getElem?_eq_getElem (by rw [tb_len]; exact hem.2)] at h; injection h] at a1
                    have hcl : cnt ps [] ec ≤ 1000000 := by have := cnt_le ps [] ec; have := HPL.out; have := HSD.out; omega
                    obtain ⟨q, hq⟩ : ∃ q, q = cnt ps [] ec := ⟨_, rfl⟩
                    have HQ := Lib.hid hq
                    rw [← hq] at a1 hcl
                    clear hq
                    have hei : (ea : Int) < (s.many : Int) := by omega
                    have hci : (ec : Int) < (s.many : Int) := by omega
                    go_upto_region 31 with fail
                    obtain ⟨W, hW⟩ : ∃ W, W = W9.setCell ⟨ba, ec, none⟩ (.int .i64 ((q : Int) + 1)) := ⟨_, rfl⟩
                    have hKW : Kw W9 W (fun j => j = ba) := by rw [hW]; exact Kw.set W9 ba ec _
                    have HAW : Hid (Ro W ba 3 (ints (nn (tb s.many (cnt (ps ++ [(ea, ec)]) []))))) := Lib.hid (by
                      rw [hW, ← cnt_step, ← HQ.out, show ((q : Int) + 1) = ((q + 1 : Nat) : Int) by omega, ← nn_set]
                      exact HA9.out.set ec _)
                    have HEW := Lib.hid (HE9.out.kw hKW (by have := HS9.out; omega))
                    have HGLW := Lib.hid (HGL9.out.kw hKW (by omega) fun i v hv x hx => by have := (HGL9.out.lt hv x hx).1; omega)
                    have HKW := Lib.hid hKW
                    have HSW : Hid (W.heap.size = W9.heap.size) := Lib.hid (by rw [hW]; simp [World.setCell])
                    rw [← hW]
                    clear hW hKW v0 v1 a1 f1 HA9 HE9 HGL9
                    obtain ⟨v, hv, c1, hrow⟩ := HGLW.out.get (tb_get (f := ld ps) hem.1)
                    obtain ⟨av, cv2, rfl⟩ := own_shape hrow
                    have HVV := Lib.hid hv
                    have hne1 : (Value.slice av (ld ps ea).length cv2).ownBlock ≠ some e8 := HEW.out.ne_own (by decide) hrow
                    have hne2 := HGLW.out.ne hv
                    have hne3 : (Value.slice av (ld ps ea).length cv2).ownBlock ≠ some ba := fun e => by have := (hrow.lt _ e).1; omega
                    have hlen : (ld ps ea).length ≤ 1000000 := by have := ld_le ps ea; have := HPL.out; have := HSD.out; omega
                    have hszW : r5 + 2 ≤ W.heap.size := by have := HS9.out; have := HSW.out; omega
                    have v0 := HEW.out.cell (i := 0) rfl
                    have v1 := HEW.out.cell (i := 1) rfl
                    obtain ⟨i0, z0, hi0, hz0, hsz0, hby0, hzs0⟩ := tyInts.hi
                    clear hv
                    have c1a : (W.alloc (.cells #[.int .i64 (ec : Int)] 3)).cell? ⟨r5, ea, none⟩ = some (.slice av (ld ps ea).length cv2) := (HGLW.out.out.kw (Kw.alloc W (.cells #[.int .i64 (ec : Int)] 3) (fun _ => False)) id).cell HVV.out
                    have v0a : (W.alloc (.cells #[.int .i64 (ec : Int)] 3)).cell? ⟨e8, 0, none⟩ = some (.int .i64 (ea : Int)) := (HEW.out.kw (Kw.alloc W (.cells #[.int .i64 (ec : Int)] 3) (fun _ => False)) id).cell (i := 0) rfl
                    have v1a : (W.alloc (.cells #[.int .i64 (ec : Int)] 3)).cell? ⟨e8, 1, none⟩ = some (.int .i64 (ec : Int)) := (HEW.out.kw (Kw.alloc W (.cells #[.int .i64 (ec : Int)] 3) (fun _ => False)) id).cell (i := 1) rfl
                    have hre : e8 ≠ r5 := by have := HS9.out; omega
                    have HFIN : Hid (∀ (gg cap : Nat) (w1 : World), w1.ownsRow (r5 + 2) 3 1 (.slice (some ⟨gg, 0, none⟩) ((ld ps ea).length + 1) cap) ((ld ps ea).length + 1) (ints (nn (ld ps ea)) ++ [.int .i64 (ec : Int)]) → Kw W w1 (fun j => (Value.slice av (ld ps ea).length cv2).ownBlock = some j) → ((Value.slice av (ld ps ea).length cv2).ownBlock = some gg ∨ gg = W.heap.size + 1) →
                        ∃ (left : Lit → Bool) (ps2 : List (Nat × Nat)) (vl : List Value), Hid ((w1.setCell ⟨r5, ea, none⟩ (.slice (some ⟨gg, 0, none⟩) ((ld ps ea).length + 1) cap)).ranges Try.prog 52 (plainElem Try.prog 3) w3.heap.size (r5 + 1) n0 D left cnt1) ∧
                          Hid (ps2.Nodup ∧ ∀ kl, left kl = true ↔ ∃ a c : Nat, a ≤ 1000000 ∧ c ≤ 1000000 ∧ kl = ek a c ∧ (∃ i j, E g i j ∧ gp i = a ∧ gp j = c ∧ a ≠ c) ∧ (a, c) ∉ ps2) ∧ Hid (∀ a c, (a, c) ∈ ps2 → ∃ i j, E g i j ∧ gp i = a ∧ gp j = c ∧ a ≠ c) ∧ Hid (ps2.length + cnt1 ≤ Maps.size D) ∧
                          Hid (Ro (w1.setCell ⟨r5, ea, none⟩ (.slice (some ⟨gg, 0, none⟩) ((ld ps ea).length + 1) cap)) ba 3 (ints (nn (tb s.many (cnt ps2 []))))) ∧ Hid (Gw (w1.setCell ⟨r5, ea, none⟩ (.slice (some ⟨gg, 0, none⟩) ((ld ps ea).length + 1) cap)) (r5 + 2) r5 vl (tb s.many (ld ps2))) ∧
                          Hid (Kw w5 (w1.setCell ⟨r5, ea, none⟩ (.slice (some ⟨gg, 0, none⟩) ((ld ps ea).length + 1) cap)) (fun j => j = ba)) ∧ Hid (r5 + 2 ≤ (w1.setCell ⟨r5, ea, none⟩ (.slice (some ⟨gg, 0, none⟩) ((ld ps ea).length + 1) cap)).heap.size)) := Lib.hid fun gg cap w1 ho hk hat => by
                      --BEGIN 7
                      as_aux_lemma =>
                        have hks := Kw.set w1 r5 ea (.slice (some ⟨gg, 0, none⟩) ((ld ps ea).length + 1) cap)
                        have hr5 := HR5.out
                        have hb5 := HBA5.out
                        have hs9 := HS9.out
                        have hsw := HSW.out
                        have hvr : ∀ j, (Value.slice av (ld ps ea).length cv2).ownBlock = some j → r5 + 2 ≤ j := fun j e => (hrow.lt j e).1
                        have hk9 : Kw W9 (w1.setCell ⟨r5, ea, none⟩ (.slice (some ⟨gg, 0, none⟩) ((ld ps ea).length + 1) cap)) (fun j => j = ba ∨ j = r5 ∨ r5 + 2 ≤ j) := ((HKW.out.mono (q := fun j => j = ba ∨ j = r5 ∨ r5 + 2 ≤ j) fun j e => .inl e).trans hk fun j _ e => .inr (.inr (hvr j e))).trans hks fun j _ e => .inr (.inl e)
                        refine ⟨_, ps ++ [(ea, ec)], vl.set ea (.slice (some ⟨gg, 0, none⟩) ((ld ps ea).length + 1) cap), Lib.hid (ranges_at HRG9.out (hk9.block _ HRG9.out.owns.lt (by omega)) (hk9.block _ HRG9.out.lt (by omega))), Lib.hid ⟨?_, left_step HPS.out.2 (by omega) (by omega)⟩, Lib.hid ?_, Lib.hid ?_, Lib.hid ((HAW.out.kw hk hne3).far (by omega) ea _), Lib.hid ?_, Lib.hid ?_, Lib.hid ?_⟩
                        · rw [List.nodup_append]
                          exact ⟨HPS.out.1, by simp, fun a ha b hb e => HNP.out (by rw [List.mem_singleton.1 hb] at e; rw [← e]; exact ha)⟩
                        · intro a c hm
                          rcases List.mem_append.1 hm with hm | hm
                          · exact HPE.out a c hm
                          · have he := List.mem_singleton.1 hm
                            injection he with e1 e2
                            rw [e1, e2]; exact HED.out
                        · have := HPL.out; have := HLT.out; simp; omega
                        · rw [← ld_step]
                          exact HGLW.out.step (l' := ld ps ea ++ [ec]) HVV.out (tb_get hem.1) hk (by
                            rcases hat with h | h
                            · exact .inl h.symm
                            · exact .inr ⟨gg, rfl, by omega⟩) (by rw [List.length_append, show nn (ld ps ea ++ [ec]) = nn (ld ps ea) ++ [(ec : Int)] by simp, ints_snoc]; exact ho)
                        · exact (HK.out.trans HK89.out fun j hj e => by omega).trans hk9 fun j hj e => by rcases e with e | e | e <;> omega
                        · have := hk.size; have := hks.size; omega
                      --END 7
                    clear HG HL HC HGP HFX5 HFG5 HA5 HGW5 HB5 HBA5 HD HSD HR5 HPS HPE HPL HK HWS HED HNP HS3 HE8 HK89 HRG9 HS9 HQ HAW HKW HSW
                    --BEGIN 8
                    refine reg31 (many := s.many) hem.1 hlen hszW HEW.out HGLW.out.out HVV.out hrow ?_
                    intro x161 x162 x163 x164 x165 x166 x167 x168 x169 x170 x171 x172 x173 gg cap w1 ho hk hat
                    clear c1a v0a v1a v0 v1 c1
                    go_wp2_with fail
                    go_roundg cnt1
                    case measure => exact HLT.out
                    case rel => exact HFIN.out gg cap w1 ho hk hat
                    --END 8
              --END 6
            case rest =>
              obtain ⟨rfl, ks, vl, HEDS, HAK, HGL, HK5, HKL⟩ := hcut
              rename World => wa
              have HKA : Hid (Kw w5 wa (fun j => j = ba)) := HK5
              have HFXa := Lib.hid (HFX5.out.kw HK5.out HFB.out)
              have HFGa := Lib.hid (HFG5.out.kw HK5.out HGA.out)
              have HGWa := Lib.hid (HGW5.out.kw HK5.out HNB.out.symm fun i v hv x hx => by have := HRW3.out i v hv x hx; have := HBA5.out; omega)
              have HBa := Lib.hid (HB5.out.trans (HK5.out.below (by have := HBW.out; rintro j rfl; omega) HB5.out.size))
              obtain ⟨bl, hbl⟩ : ∃ bl, bl = w5.heap.size := ⟨_, rfl⟩
              have HBL := Lib.hid hbl
              rw [← hbl] at HGL ⊢
              have HRL : Hid (∀ (i : Nat) (v : Value), vl[i]? = some v → ∀ x, v.ownBlock = some x → bl + 2 ≤ x ∧ x < wa.heap.size) := Lib.hid fun i v hv x hx => HGL.out.lt hv x hx
              have HSA : Hid (ba < bl ∧ bn < bl ∧ bl < wa.heap.size ∧ w3.heap.size < bl ∧ w2.heap.size ≤ w3.heap.size ∧ ba < w2.heap.size) := Lib.hid (by have := HGL.out.out.lt; have := HBA5.out; omega)
              clear hbl HFX5 HFG5 HA5 HGW5 HB5 HBA5 HK5 HKA
              have HB0 : Hid (Hp (wa.alloc (.cells #[.slice none 0 0] 53)) wa.heap.size wa.heap.size (.slice none 0 0) (nn [])) := Lib.hid ⟨heap_alloc_new _ _, World.ownsRow_nil _ _ _ _⟩
              go_upto_block 10 with fail
              go_cut [17] (fun s17 w' => s17 = .pointer (some ⟨wa.heap.size, 0, none⟩) ∧ ∃ (v : Value) (h : List Nat), Hid (Hp w' wa.heap.size wa.heap.size v (nn h)) ∧ Hid (Kn g gp s.many [] (cnt ks []) (tb s.many (cnt ks [])) h) ∧ Hid (Hq (fun k => (nn h).getD k 0) (nn h).length) ∧ Hid (Kw wa w' (fun _ => False)))
              case first =>
                --BEGIN 9
                as_aux_lemma =>
                  go_wp2_with fail
                  obtain ⟨B6, hB6⟩ : ∃ B6, B6 = wa.heap.size := ⟨_, rfl⟩
                  obtain ⟨wb, hwb⟩ : ∃ wb, wb = wa.alloc (.cells #[.slice none 0 0] 53) := ⟨_, rfl⟩
                  have HB6 := Lib.hid hB6
                  have HKab : Hid (Kw wa wb (fun _ => False)) := Lib.hid (by rw [hwb]; exact Kw.alloc _ _ _)
                  have HB0 : Hid (Hp wb B6 B6 (.slice none 0 0) (nn [])) := Lib.hid (by rw [hwb, hB6]; exact HB0.out)
                  rw [← hwb, ← hB6]
                  clear hwb hB6
                  go_loopg [176] (s.many - 0) (fun n v176 wr => ∃ (c : Nat) (v : Value) (h : List Nat), v176 = .int .i64 c ∧ Hid (c ≤ s.many ∧ s.many - c = n) ∧ Hid (Hp wr B6 B6 v (nn h)) ∧ Hid (h.Perm (rdy g gp ks c)) ∧ Hid (Hq (fun k => (nn h).getD k 0) (nn h).length) ∧ Hid (Kw wa wr (fun _ => False)))
                  case atStart => exact ⟨0, _, [], rfl, Lib.hid ⟨Nat.zero_le _, rfl⟩, HB0, Lib.hid (List.Perm.refl _), Lib.hid fun k h1 h2 => by simp at h2, HKab⟩
                  case round =>
                    clear HB0 HKab
                    obtain ⟨c, v, h, rfl, HI, HHP, HPM, HQ, HK⟩ := hrel
                    by_cases hc : c < s.many
                    · have hcc : (c : Int) < (s.many : Int) := by omega
                      have a1 := (HAK.out.kw HK.out id).cell (nn_at _ c (by rw [tb_len]; exact hc))
                      rw [show (tb s.many (cnt ks []))[c]'(by rw [tb_len]; exact hc) = cnt ks [] c by have h := tb_get (f := cnt ks []) hc; rw [List.getElem?_eq_getElem (by rw [tb_len]; exact hc)] at h; injection h] at a1
                      obtain ⟨q, hq⟩ : ∃ q, q = cnt ks [] c := ⟨_, rfl⟩
                      have HQQ := Lib.hid hq
                      rw [← hq] at a1
                      clear hq
                      rcases Nat.eq_zero_or_pos q with h0 | h0
                      · subst h0
                        have HGWr := Lib.hid (HGWa.out.kw HK.out id fun _ _ _ _ _ => id)
                        obtain ⟨u, hu, c1, hrow⟩ := HGWr.out.get (tb_get (f := nd g gp) hc)
                        have hri := HGWr.out.ri hu (tb_get (f := nd g gp) hc)
                        obtain ⟨nl, hnl⟩ := HC.out.nd_cons hc
                        rw [hnl] at hri hrow
                        obtain ⟨au, cu, rfl⟩ := own_shape hrow
                        obtain ⟨b3, o3, rfl, c3⟩ := hri.at (i := 0) (by simp)
                        simp only [nn, List.map_cons, List.getElem_cons_zero, Nat.add_zero] at c3
                        have hh : (nn h).length ≤ 100000 := by have := HPM.out.length_eq; have := rdy_len g gp ks c; simp only [List.length_map]; omega
                        have hB6 := HB6.out
                        have HPU := Lib.hid (push_any B6 B6 v (nn h) (fst g gp c : Nat) wr HHP.out hh (by have := HK.out.size; omega) HQ.out)
                        have hl1 : (0 : Int) < ((nl.length : Int) + 1) := by omega
                        clear hu hrow hri hnl hh hB6
                        go_wp2_with fail
                        (with_reducible refine HPU.out.mono ?_); rintro e w6 ⟨rfl, v6, l6, hp6, pm6, hq6, k6, n6⟩
                        obtain ⟨h6, rfl, pq6⟩ := perm_nn (m := h ++ [fst g gp c]) (by simpa using pm6)
                        have HHP6 := Lib.hid hp6
                        have HPM6 := Lib.hid (show h6.Perm (rdy g gp ks (c + 1)) from by rw [rdy_yes g gp ks HQQ.out.symm]; exact pq6.trans (HPM.out.append_right _))
                        have HQ6 := Lib.hid hq6
                        have HK6 := Lib.hid (HK.out.trans k6 fun j hj e => by
                          have := HB6.out
                          rcases e with e | e
                          · omega
                          · have := (HHP.out.row.lt _ e).1; omega)
                        clear hp6 pm6 pq6 hq6 k6 n6 a1 c1 c3
                        go_wp2_with fail
                        go_roundg (s.many - (c + 1))
                        case measure => have := HI.out.2; omega
                        case rel => exact ⟨c + 1, v6, h6, by simp, Lib.hid ⟨hc, rfl⟩, HHP6, HPM6, HQ6, HK6⟩
                      · have hqq : ((q : Int) == 0) = false := by simp; omega
                        go_wp2_with fail
                        go_roundg (s.many - (c + 1))
                        case measure => have := HI.out.2; omega
                        case rel => exact ⟨c + 1, v, h, by simp, Lib.hid ⟨hc, rfl⟩, HHP, Lib.hid (by rw [rdy_no g gp ks (by have := HQQ.out; omega)]; exact HPM.out), HQ, HK⟩
                    · obtain rfl : c = s.many := by have := HI.out.1; omega
                      have hB6 := HB6.out
                      subst hB6
                      go_wp2_with fail
                      go_meet
                      exact ⟨rfl, v, h, HHP, Lib.hid ((kn_start HC.out ks).perm HPM.out.symm), HQ, HK⟩
                --END 9
              case rest =>
                obtain ⟨rfl, v, h, HHP, HKN, HQ, HK9⟩ := hcut
                rename World => w9
                have HFX9 := Lib.hid (HFXa.out.kw HK9.out id)
                have HFG9 := Lib.hid (HFGa.out.kw HK9.out id)
                have HGW9 := Lib.hid (HGWa.out.kw HK9.out id fun _ _ _ _ _ => id)
                have HGL9 := Lib.hid (HGL.out.kw HK9.out id fun _ _ _ _ _ => id)
                have HA9 := Lib.hid (HAK.out.kw HK9.out id)
                have HB9 := Lib.hid (HBa.out.trans (HK9.out.below (fun _ h => h.elim) HBa.out.size))
                obtain ⟨B6, hB6⟩ : ∃ B6, B6 = wa.heap.size := ⟨_, rfl⟩
                have HS6 : Hid (B6 ≤ w9.heap.size ∧ ba < bl ∧ bn < bl ∧ bl < B6 ∧ w3.heap.size < bl ∧ w2.heap.size ≤ w3.heap.size ∧ ba < w2.heap.size ∧ w.heap.size ≤ ba ∧ A.f < B6 ∧ A.g < B6) := Lib.hid (by have := HSA.out; have := HBW.out; have := HK9.out.size; have := HFXa.out.lt; have := HFGa.out.lt; omega)
                have HRL : Hid (∀ (i : Nat) (v : Value), vl[i]? = some v → ∀ x, v.ownBlock = some x → bl + 2 ≤ x ∧ x < B6) := Lib.hid (by rw [hB6]; exact HRL.out)
                rw [← hB6] at HHP ⊢
                have HRN := Lib.hid (Rn.start HC.out HKN.out)
                clear hB6 HFXa HFGa HGWa HGL HAK HBa HKN HK9 HB0 HSA HBW
                --BEGIN 10
                as_aux_lemma =>
                  have tyGrid : SlTy Try.prog 22 23 1 24 := SlTy.mk' (z := .slice none 0 0) Try.underlying22 (by kernel_rfl) rfl (by decide)
                  go_wp2_with fail
                  go_loopg [20] (s.many - 0) (fun n v20 wr => ∃ (oc ah h : List Nat) (v vo : Value) (t : Nat) (st : List Bool) (outs : List (List Nat)), vo = v20 ∧ Hid (s.many - oc.length = n) ∧ Hid (wr.ownsRow w9.heap.size 23 1 vo oc.length (oc.map fun c => vn.getD c nilV)) ∧ Hid (Hp wr B6 B6 v (nn h)) ∧ Hid (Hq (fun k => (nn h).getD k 0) (nn h).length) ∧ Hid (Ro wr ba 3 (ints (nn ah))) ∧ Hid (Rn g gp s.many ks oc ah h t st outs) ∧ Hid (outs = oc.map (nd g gp)) ∧ Hid (Kw w9 wr (fun j => j = ba ∨ B6 ≤ j)))
                  case atStart => exact ⟨[], _, h, v, _, _, _, [], rfl, Lib.hid rfl, Lib.hid (World.ownsRow_nil _ _ _ _), HHP, HQ, HA9, HRN, Lib.hid rfl, Lib.hid (Kw.refl _ _)⟩
                  case round =>
                    clear HHP HQ HA9 HRN
                    obtain ⟨oc, ah, h, v, vo, t, st, outs, rfl, HM, HVO, HHP, HQ, HAH, HRN, HOUT, HK⟩ := hrel
                    obtain ⟨av, cv, rfl⟩ := own_shape HHP.out.row
                    have c0 := HHP.out.box.cell
                    have hoc1 : oc.length ≤ 1000 := by have := HRN.out.kn.ocLen; omega
                    rcases h with _ | ⟨x0, h0⟩
                    · simp only [nn, List.map_nil, List.length_nil] at c0
                      go_wp2_with fail
                      go_ret
                      have HGWr := HGW9.out.kw HK.out (by have := HS6.out; have := HNB.out; omega) fun i v hv x hx => by have := HRW3.out i v hv x hx; have := HS6.out; omega
                      have hrg := HGWr.og (B0 := w.heap.size) (fun c hc => HRN.out.kn.lt c hc) HVO.out (by decide) HB9.out.size (by have := HS6.out; omega)
                      rw [← HOUT.out, HRN.out.done HC.out HEDS.out] at hrg
                      exact ⟨_, rfl, hrg, HB9.out.trans (HK.out.below (by have := HS6.out; rintro j (e | e) <;> omega) HB9.out.size)⟩
                    · have hh0 : (x0 :: h0).length ≤ 1000 := by have := HRN.out.kn.hlen HC.out; omega
                      have hh1 : h0.length ≤ 1000 := by simp only [List.length_cons] at hh0; omega
                      have HPOP := pop_any B6 B6 (.slice av (nn (x0 :: h0)).length cv) (nn (x0 :: h0)) h0.length wr HHP.out (by simp) (by simp only [List.length_map]; omega) HQ.out
                      rw [show (nn (x0 :: h0)).getD 0 0 = (x0 : Int) from rfl] at HPOP
                      have HPOP := Lib.hid HPOP
                      have hgt : (0 : Int) < (h0.length : Int) + 1 := by omega
                      have hta : ∀ w, (Instr.typeAssert (.iface 3 (.int .i64 (x0 : Int))) 20 3 true).run Try.prog w = .ok (.tuple #[.int .i64 (x0 : Int), .bool true]) w := fun w => by simp [Instr.typeAssert, run_underlying Try.underlying3]
                      go_wp2_with fail
                      (with_reducible refine HPOP.out.mono ?_); rintro e w10 ⟨rfl, v1, l1, hp1, pm1, hq1, k1, e1⟩
                      obtain ⟨h1, rfl, pq1⟩ := perm_nn ((List.perm_cons _).1 pm1)
                      have HKN1 := Lib.hid (HRN.out.kn.perm (List.Perm.cons x0 pq1.symm))
                      have HMN : Hid (∀ y ∈ h1, x0 ≤ y) := Lib.hid fun y hy => by
                        obtain ⟨k, hk⟩ := List.getElem?_of_mem (pq1.mem_iff.1 hy)
                        have hkl := (List.getElem?_eq_some_iff.1 hk).1
                        have := HQ.out.min (k + 1) (by simp; omega)
                        have e2 : (nn (x0 :: h0)).getD (k + 1) 0 = (y : Int) := by rw [nn_getD]; simp [List.getD_eq_getElem?_getD, hk]
                        have e3 : (nn (x0 :: h0)).getD 0 0 = (x0 : Int) := rfl
                        simp only [e2, e3] at this
                        omega
                      have HRN1 : Hid (Rn g gp s.many ks oc ah (x0 :: h1) t st outs) := Lib.hid ⟨HKN1.out, HRN.out.sn, HRN.out.more, HRN.out.out, HRN.out.olen⟩
                      obtain ⟨p1, p2, p3, p4, p5, kn1⟩ := HKN1.out.pop HC.out
                      have HKN2 := Lib.hid kn1
                      have HP3 := Lib.hid p3
                      have HHP1 := Lib.hid hp1
                      have HQ1 := Lib.hid hq1
                      have HVOb := Lib.hid (own_apart2 HVO.out HHP.out.row (by decide))
                      have hvb : vo.ownBlock ≠ some B6 := fun e => HHP.out.box.ne_row (by decide) HVO.out _ e rfl
                      have HVO1 := Lib.hid (k1.row HVO.out fun j e e2 => by
                        rcases e2 with e2 | e2
                        · exact hvb (e2 ▸ e)
                        · exact HVOb.out j e e2)
                      have HAH1 := Lib.hid (HAH.out.kw k1 (by
                        rintro (e | e)
                        · have := HS6.out; omega
                        · have := (HHP.out.row.lt _ e).1; have := HS6.out; omega))
                      have HK1 := Lib.hid (HK.out.trans k1 fun j hj e => by
                        rcases e with e | e
                        · right; omega
                        · exact .inr (HHP.out.row.lt _ e).1)
                      have hs10 : w9.heap.size ≤ w10.heap.size := HK1.out.size
                      have hxx : (x0 : Int) < (g.length : Int) := by omega
                      have x6 := (HFX9.out.kw HK1.out (by have := HFB.out; have := HS6.out; omega)).cell (i := 6) rfl
                      have i1 := (HFG9.out.kw HK1.out (by have := HGA.out; have := HS6.out; omega)).cell (nn_at s.grp x0 (by rw [HLG.out]; exact p1))
                      obtain ⟨c, hc⟩ : ∃ c, c = s.grp[x0]'(by rw [HLG.out]; exact p1) := ⟨_, rfl⟩
                      have HCI : Hid (gp x0 = c) := Lib.hid (by rw [HGP.out, hc]; simp [HLG.out, p1])
                      rw [← hc] at i1
                      clear hc
                      rw [HCI.out] at p2 p3 HKN2 HP3
                      have hcc : (c : Int) < (s.many : Int) := by omega
                      have HGWr := Lib.hid (HGW9.out.kw HK1.out (by have := HNB.out; have := HS6.out; omega) fun i v hv x hx => by have := HRW3.out i v hv x hx; have := HS6.out; omega)
                      have HGLr := Lib.hid (HGL9.out.kw HK1.out (by have := HS6.out; omega) fun i v hv x hx => by have := HRL.out i v hv x hx; have := HS6.out; omega)
                      obtain ⟨un, hun, cn, hrown⟩ := HGWr.out.get (tb_get (f := nd g gp) p2)
                      obtain ⟨ul, hul, _, hrowl⟩ := HGLr.out.get (tb_get (f := ld ks) p2)
                      obtain ⟨an, cn2, rfl⟩ := own_shape hrown
                      obtain ⟨al, cl2, rfl⟩ := own_shape hrowl
                      have HUN := Lib.hid hun
                      have HUL := Lib.hid hul
                      obtain ⟨avo, cvo, rfl⟩ := own_shape HVO1.out
                      have hvo := HVO1.out
                      have HUE : Hid (vn.getD c nilV = .slice an (nd g gp c).length cn2) := Lib.hid (by rw [List.getD_eq_getElem?_getD, HUN.out]; rfl)
                      have hnda : (nd g gp c).length ≤ 1000 := by have := ndf_len gp g.length c; rw [ndf_all] at this; omega
                      have hldl : (ld ks c).length ≤ 1000000 := by have := ld_le ks c; have := HKL.out; omega
                      clear hun hul hrown hrowl kn1 p3 p4 p5 hp1 hq1 pm1 pq1 k1 e1 HHP HQ HVO HAH HK HRN HKN1 HGWr HGLr c0 hgt HPOP hvb HVOb
                      go_wp2_with (first
                        | (at_builtin; (refine wp_app2 (news := [.slice an (nd g gp c).length cn2]) tyGrid rfl _ _ rfl w9.heap.size hvo rfl rfl rfl rfl (by intro u hu; simp at hu; rw [hu]; rfl) (by omega) (by omega) hs10 ?_; intro v3 w3' o3 b3 q3 n3; have k3 := Kw.of_grown q3; have HHP3 := Lib.hid (HHP1.out.kw k3 (fun e => HHP1.out.box.ne_row (by decide) hvo _ e rfl) fun j e e2 => own_apart2 hvo HHP1.out.row (by decide) j e2 e); have HAH3 := Lib.hid (HAH1.out.kw k3 (HAH1.out.ne_own (by decide) hvo)); have HK3 := Lib.hid (HK1.out.trans k3 fun j hj e => Or.inr (by have := (hvo.lt _ e).1; have := HS6.out; omega)); have HGL3 := Lib.hid (HGL9.out.kw HK3.out (by have := HS6.out; omega) fun i v hv x hx => by have := HRL.out i v hv x hx; have := HS6.out; omega); have c2 := HGL3.out.out.cell HUL.out; have HVO3 : Hid (w3'.ownsRow w9.heap.size 23 1 v3 (oc ++ [c]).length ((oc ++ [c]).map fun c => vn.getD c nilV)) := Lib.hid (by have e := HUE.out; rw [List.map_append, List.length_append, List.map_cons, List.map_nil, e]; exact o3); clear o3 b3 q3 n3 k3 hvo HVO1 HAH1 HK1 HHP1 x6 i1 cn hs10))
                        | fail)
                      have HKN3 : Hid (Kn g gp s.many (oc ++ [c]) (ctp ks oc ((ld ks c).take 0)) ah h1) := Lib.hid (HKN2.out.congr fun x _ => by rw [List.take_zero, ctp_nil])
                      go_loopg [221] ((ld ks c).length - 0) (fun n v221 wr3 => ∃ (j : Nat) (ah h : List Nat) (v : Value), v221 = .int .i64 j ∧ Hid (j ≤ (ld ks c).length ∧ (ld ks c).length - j = n) ∧ Hid (wr3.ownsRow w9.heap.size 23 1 v3 (oc ++ [c]).length ((oc ++ [c]).map fun c => vn.getD c nilV)) ∧ Hid (Hp wr3 B6 B6 v (nn h)) ∧ Hid (Hq (fun k => (nn h).getD k 0) (nn h).length) ∧ Hid (Ro wr3 ba 3 (ints (nn ah))) ∧ Hid (Kn g gp s.many (oc ++ [c]) (ctp ks oc ((ld ks c).take j)) ah h) ∧ Hid (Kw w9 wr3 (fun j => j = ba ∨ B6 ≤ j)))
                      case atStart => exact ⟨0, ah, h1, v1, rfl, Lib.hid ⟨Nat.zero_le _, rfl⟩, HVO3, HHP3, HQ1, HAH3, HKN3, HK3⟩
                      case round =>
                        clear HVO3 HHP3 HQ1 HAH3 HKN3 HK3 HGL3 c2
                        obtain ⟨j, ah, h, v, rfl, HJ, HVO, HHP, HQ, HAH, HKN, HK⟩ := hrel
                        by_cases hj : j < (ld ks c).length
                        · have hjj : (j : Int) < ((ld ks c).length : Int) := by omega
                          have HGLr := Lib.hid (HGL9.out.kw HK.out (by have := HS6.out; omega) fun i v hv x hx => by have := HRL.out i v hv x hx; have := HS6.out; omega)
                          have HGWr := Lib.hid (HGW9.out.kw HK.out (by have := HNB.out; have := HS6.out; omega) fun i v hv x hx => by have := HRW3.out i v hv x hx; have := HS6.out; omega)
                          obtain ⟨b3, o3, rfl, c3⟩ := Ri.at (l := nn (ld ks c)) (by have h9 := HGLr.out.ri HUL.out (tb_get p2); exact h9) (i := j) (by simpa using hj)
                          obtain ⟨tg, hto⟩ : ∃ tg, tg = (ld ks c)[j] := ⟨_, rfl⟩
                          rw [show (nn (ld ks c))[j]'(by simpa using hj) = (tg : Int) by rw [hto]; simp] at c3
                          obtain ⟨ht1, ht2⟩ := take_succ' (ld ks c) hj
                          rw [← hto] at ht1 ht2
                          obtain ⟨hto1, hto2⟩ := ctp_pos HEDS.out.nodup HP3.out ht2
                          have htm : tg < s.many := by
                            have : tg ∈ ld ks c := by rw [hto]; exact List.getElem_mem hj
                            obtain ⟨i, j2, hE, _, e2, _⟩ := (HEDS.out.mem c tg).1 (ld_mem.1 this)
                            rw [← e2]; exact HC.out.lt j2 hE.2.1
                          have htt : (tg : Int) < (s.many : Int) := by omega
                          have hal : tg < ah.length := by rw [HKN.out.len]; exact htm
                          have ha0 := HKN.out.ah tg htm
                          have ha1 : ctp ks oc ((ld ks c).take j) tg ≤ 1000000 := by have := cnt_le ks oc tg; have := HKL.out; unfold ctp; omega
                          obtain ⟨q, hq⟩ : ∃ q, ctp ks oc ((ld ks c).take j) tg = q + 1 := ⟨ctp ks oc ((ld ks c).take j) tg - 1, by omega⟩
                          have a1 := HAH.out.cell (nn_at ah tg hal)
                          rw [show ((ah[tg] : Nat) : Int) = (q : Int) + 1 by
                            rw [List.getD_eq_getElem?_getD, List.getElem?_eq_getElem hal] at ha0
                            have : ah[tg] = q + 1 := by rw [← hq, ← ha0]; rfl
                            omega] at a1
                          have f1 := HAH.out.free tg
                          have hql : q ≤ 1000000 := by omega
                          have HQE := Lib.hid hq
                          have HSN := Lib.hid ht1
                          have HTO := Lib.hid hto1
                          clear hto ht1 ht2 hto1 hto2 ha0 ha1 hq hal
                          go_upto_region 48 with fail
                          obtain ⟨W, hW⟩ : ∃ W, W = wr.setCell ⟨ba, tg, none⟩ (.int .i64 (q : Int)) := ⟨_, rfl⟩
                          have hKW : Kw wr W (fun j => j = ba) := by rw [hW]; exact Kw.set wr ba tg _
                          have HAW : Hid (Ro W ba 3 (ints (nn (ah.set tg q)))) := Lib.hid (by rw [hW, ← nn_set]; exact HAH.out.set tg _)
                          rw [← hW]
                          clear hW a1 f1 c3
                          have HHW := Lib.hid (HHP.out.kw hKW (by have := HS6.out; omega) fun j e e2 => by have := (HHP.out.row.lt _ e).1; have := HS6.out; omega)
                          have HVW := Lib.hid (hKW.row HVO.out fun j e e2 => by have := (HVO.out.lt _ e).1; have := HS6.out; omega)
                          have HKW := Lib.hid (HK.out.trans hKW fun j _ e => Or.inl e)
                          have HGWW := Lib.hid (HGWr.out.kw hKW (by have := HNB.out; omega) fun i v hv x hx => by have := HRW3.out i v hv x hx; have := HS6.out; omega)
                          have a2 := HAW.out.cell (nn_at _ tg (by rw [List.length_set, HKN.out.len]; exact htm))
                          rw [show ((ah.set tg q)[tg]'(by rw [List.length_set, HKN.out.len]; exact htm)) = q from List.getElem_set_self _] at a2
                          have hsW : w9.heap.size ≤ W.heap.size := HKW.out.size
                          clear hKW HAH HHP HVO HK HGWr HGLr
                          rcases q with _ | m
                          · have h00 : ((0 : Nat) : Int) = 0 := rfl
                            rw [h00] at a2
                            obtain ⟨u, hu, c1, hrow⟩ := HGWW.out.get (tb_get (f := nd g gp) htm)
                            have hri := HGWW.out.ri hu (tb_get (f := nd g gp) htm)
                            obtain ⟨nl, hnl⟩ := HC.out.nd_cons htm
                            rw [hnl] at hri hrow
                            obtain ⟨au, cu, rfl⟩ := own_shape hrow
                            obtain ⟨b4, o4, rfl, c4⟩ := hri.at (i := 0) (by simp)
                            simp only [nn, List.map_cons, List.getElem_cons_zero, Nat.add_zero] at c4
                            have hh : (nn h).length ≤ 100000 := by have := HKN.out.hlen HC.out; simp only [List.length_map]; omega
                            have HPU := Lib.hid (push_any B6 B6 v (nn h) (fst g gp tg : Nat) W HHW.out hh (by have := HS6.out; omega) HQ.out)
                            have hl1 : (0 : Int) < ((nl.length : Int) + 1) := by omega
                            clear hu hrow hri hnl hh h00
                            go_wp2_with fail
                            (with_reducible refine HPU.out.mono ?_); rintro e w6 ⟨rfl, v6, l6, hp6, pm6, hq6, k6, n6⟩
                            obtain ⟨h6, rfl, pq6⟩ := perm_nn (m := h ++ [fst g gp tg]) (by simpa using pm6)
                            have HHP6 := Lib.hid hp6
                            have HQ6 := Lib.hid hq6
                            have HKN6 : Hid (Kn g gp s.many (oc ++ [c]) (ctp ks oc ((ld ks c).take (j + 1))) (ah.set tg 0) h6) := Lib.hid (((HKN.out.push HC.out htm HQE.out).congr fun x _ => by
                              rw [HSN.out, ctp_snoc HTO.out]
                              by_cases e : x = tg
                              · rw [if_pos e, if_pos e, HQE.out]
                              · rw [if_neg e, if_neg e]).perm pq6.symm)
                            have HAH6 := Lib.hid (HAW.out.kw k6 (by
                              have := HS6.out
                              rintro (e | e)
                              · omega
                              · have := (HHW.out.row.lt _ e).1; omega))
                            have HVO6 := Lib.hid (k6.row HVW.out fun j e e2 => by
                              rcases e2 with e2 | e2
                              · exact HHW.out.box.ne_row (by decide) HVW.out _ e e2
                              · exact own_apart2 HVW.out HHW.out.row (by decide) j e e2)
                            have HK6 := Lib.hid (HKW.out.trans k6 fun j hj e => by
                              rcases e with e | e
                              · right; omega
                              · exact .inr (HHW.out.row.lt _ e).1)
                            clear hp6 pm6 pq6 hq6 k6 n6 a2 c1 c4
                            go_wp2_with fail
                            go_roundg ((ld ks c).length - (j + 1))
                            case measure => have := HJ.out.2; omega
                            case rel => exact ⟨j + 1, ah.set tg 0, h6, v6, by simp, Lib.hid ⟨hj, rfl⟩, HVO6, HHP6, HQ6, HAH6, HKN6, HK6⟩
                          · have hmm0 : (((m + 1 : Nat) : Int) == 0) = false := by simp; omega
                            have HKN6 : Hid (Kn g gp s.many (oc ++ [c]) (ctp ks oc ((ld ks c).take (j + 1))) (ah.set tg (m + 1)) h) := Lib.hid ((HKN.out.less htm HQE.out).congr fun x _ => by
                              rw [HSN.out, ctp_snoc HTO.out]
                              by_cases e : x = tg
                              · rw [if_pos e, if_pos e, HQE.out]; rfl
                              · rw [if_neg e, if_neg e])
                            go_wp2_with fail
                            go_roundg ((ld ks c).length - (j + 1))
                            case measure => have := HJ.out.2; omega
                            case rel => exact ⟨j + 1, ah.set tg (m + 1), h, v, by simp, Lib.hid ⟨hj, rfl⟩, HVW, HHW, HQ, HAW, HKN6, HKW⟩
                        · obtain rfl : j = (ld ks c).length := by have := HJ.out.1; omega
                          have HKX : Hid (Kn g gp s.many (oc ++ [c]) (cnt ks (oc ++ [c])) ah h) := Lib.hid (HKN.out.congr fun x _ => by rw [List.take_length, ctp_all HEDS.out.nodup HP3.out])
                          go_wp2_with fail
                          go_roundg (s.many - (oc.length + 1))
                          case measure => have := HKX.out.ocLen; have := HM.out; simp at *; omega
                          case rel => exact ⟨oc ++ [c], ah, h, v, v3, t - 1, stood g st x0, outs ++ [nd g gp c], rfl, Lib.hid (by simp), HVO, HHP, HQ, HAH, Lib.hid (by have h9 := HRN1.out.round HC.out HEDS.out HMN.out (ah' := ah) (h' := h) (by rw [HCI.out]; exact HKX.out); rw [HCI.out] at h9; exact h9), Lib.hid (by rw [HOUT.out]; simp), HK⟩
                --END 10
theorem groups_any (g : G) (vg : Value) (w : World) (hg : Rg w vg g) (hn : g.length ≤ 1000) (hl : ∀ l ∈ g, l.length ≤ 1000) :
    Calls Try.prog 10 #[vg] w fun e w' => ∃ v, e = .returned v ∧ Rg w' v ((groups g).map nn) ∧ Below w.heap.size w w' :=
  (groupsO_any g vg w hg hn hl).mono fun _ _ ⟨v, h1, h2, h3⟩ => ⟨v, h1, h2.rts, h3⟩
end Go.Proofs.Ytemdhbeegheefaa
