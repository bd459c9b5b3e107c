
/- 'GraphTurned', walked: it answers true at every input. No condition. -/
import Derived.Test.YtemdhbeegheefaaGrFixed
import Derived.Test.YtemdhbeegheefaaGrTurn
import Derived.Test.YtemdhbeegheefaaGrRows
import Derived.Test.YtemdhbeegheefaaGrPair
import Derived.Test.YtemdhbeegheefaaGrStep
import Derived.Deep.AppendLies
import Derived.Deep.RegionLaw
import Derived.Deep.RegionHeld3
import Derived.BigRegion
namespace Go.Proofs.Ytemdhbeegheefaa
open Go.RowKit Gr

/-- The grid under way. -/
structure Tw (w1 w : World) (bt : Nat) (g : G) (i k : Nat) : Prop where
  inn : ∃ (vs : List Value) (ls : List (List Nat)), Tin g i k ls ∧ Gw w (bt + 1) bt vs ls
  kw : Below w1.heap.size w1 w
  bt : w1.heap.size ≤ bt
theorem Tw.rg {w1 w : World} {bt n : Nat} {g : G} (h : Tw w1 w bt g g.length 0) (hn : g.length = n) : ∃ ls : List (List Nat), Tin g g.length 0 ls ∧ Rg w (.slice (some ⟨bt, 0, none⟩) n n) (ls.map nn) := by
  obtain ⟨vs, ls, h1, h2⟩ := h.inn
  refine ⟨ls, h1, vs, ⟨by rw [h2.len]; simp, .inr ⟨bt, 0, n, by rw [List.length_map, h1.len, hn], fun _ => h2.out.lt, fun j u hj => by rw [Nat.zero_add]; exact h2.out.cell hj, by rw [List.length_map, h1.len, hn]; exact Nat.le_refl _⟩⟩, fun i u l hu hl => ?_⟩
  rw [List.getElem?_map] at hl
  cases hc : ls[i]? with
  | none => rw [hc] at hl; cases hl
  | some x =>
    rw [hc] at hl
    injection hl with hl
    rw [← hl]
    exact h2.ri hu hc

theorem ri_at2 {w : World} {a : Option Addr} {n c : Nat} {l : List Int} (h : Ri w (.slice a n c) l) {i : Nat} (hi : i < l.length) :
    ∃ b o, a = some ⟨b, o, none⟩ ∧ w.cell? ⟨b, o + i, none⟩ = some (.int .i64 l[i]) ∧ b < w.heap.size := by
  have hl := h.1
  rcases h.2 with ⟨_, h2⟩ | ⟨b, o, cap, hv, hlt, hc, _⟩
  · omega
  · cases hv
    exact ⟨b, o, rfl, hc _ _ (ints_at l i hi), hlt (by omega)⟩

theorem groups_short (g : G) (hg : g.length ≤ 1000) : ∀ l ∈ (groups g).map nn, l.length ≤ 1000 := by
  intro l hl
  obtain ⟨x, hx, rfl⟩ := List.mem_map.1 hl
  obtain ⟨v, rfl⟩ := rest_each g _ _ x hx
  rw [List.length_map]
  have := List.length_filter_le (fun k => Gr.same g v k) (List.range g.length)
  unfold grp
  simp at this ⊢
  omega

set_option maxRecDepth 20000 in
set_option maxHeartbeats 16000000 in
/-- 'GraphTurned' is true. -/
theorem graphTurned_any (vg : Value) (g : G) (z : Int) (w : World) (hg : Rg w vg g) (hgl : ∀ l ∈ g, l.length ≤ 9223372036854775807) (hz : 0 ≤ z ∧ z ≤ 255) :
    Calls Try.prog 5 #[vg, .int .u8 z] w fun e w' => e = .returned (.bool true) ∧ Below w.heap.size w w' := by
  have HC := Lib.hid (cut_any vg g 20 w hg (by omega) hgl)
  clear hg
  obtain ⟨y, rfl⟩ : ∃ y : Nat, z = (y : Int) := ⟨z.toNat, by omega⟩
  go_enter Try.func5, Try.ntmps5
  go_wp2_with fail
  refine HC.out.mono ?_; rintro e w1 ⟨v0, rfl, r0, b0⟩
  obtain ⟨gc, hgc⟩ : ∃ gc, gc = cutG g 20 := ⟨_, rfl⟩
  have hn : gc.length ≤ 20 := by rw [hgc]; exact cutG_len g 20
  have HLE : Hid (∀ l ∈ gc, l.length ≤ 12) := Lib.hid (by rw [hgc]; exact cutG_each g 20)
  have HLE2 : Hid (∀ l ∈ gc, l.length ≤ 1000) := Lib.hid fun l hl => by have := HLE.out l hl; omega
  rw [← hgc] at r0
  clear hgc HC
  have HG := Lib.hid r0
  have HB := Lib.hid b0
  obtain ⟨ag, cg, rfl⟩ := r0.shape
  clear r0 b0
  have hmk := mkGrid gc.length (by omega)
  obtain ⟨bt, hbt⟩ : ∃ bt, bt = w1.heap.size := ⟨_, rfl⟩
  obtain ⟨w2, hw2⟩ : ∃ w2, w2 = w1.alloc (.cells (List.replicate gc.length nilV).toArray 23) := ⟨_, rfl⟩
  have HT0 : Hid (Tw w1 w2 bt gc 0 0) := Lib.hid (by
    rw [hw2, hbt]
    exact ⟨⟨_, _, Tin.zero gc, Gw.made (heap_alloc_new w1 _)⟩, (Below.refl _ _).alloc (Nat.le_refl _) _, Nat.le_refl _⟩)
  have hmk1 := hmk w1
  rw [← hw2, ← hbt] at hmk1
  clear hmk hw2 hbt
  go_upto_block 0 with fail
  go_cut [6] (fun _ w' => Hid (Tw w1 w' bt gc gc.length 0))
  case first =>
    --BEGIN 1
    go_wp2_with fail
    go_loopg [6] (gc.length - 0) (fun n v6 wr => ∃ i : Nat, v6 = .int .i64 i ∧ Hid (i ≤ gc.length ∧ gc.length - i = n) ∧ Hid (Tw w1 wr bt gc i 0))
    case atStart => exact ⟨0, rfl, Lib.hid ⟨Nat.zero_le _, rfl⟩, HT0⟩
    case round =>
      clear HT0
      obtain ⟨i, rfl, HI, HT⟩ := hrel
      by_cases hi : i < gc.length
      · have hii : (i : Int) < (gc.length : Int) := by omega
        obtain ⟨row, hrow⟩ : ∃ row, row = gc[i] := ⟨_, rfl⟩
        have HROW : Hid (gc.getD i [] = row) := Lib.hid (by rw [hrow, List.getD_eq_getElem?_getD, List.getElem?_eq_getElem hi]; rfl)
        obtain ⟨bb, oo, u1, rfl, c1w, r1w, hb1, _⟩ := HG.out.at hi
        rw [← hrow] at r1w
        obtain ⟨au, cu, hus⟩ := r1w.shape
        subst hus
        have HC1 : Hid (∀ W, Below w1.heap.size w1 W → W.cell? ⟨bb, oo + i, none⟩ = some (.slice au row.length cu)) := Lib.hid fun W hW => (hW.cell hb1).trans c1w
        have HRI := Lib.hid r1w
        have hrl : row.length ≤ 12 := by rw [hrow]; exact HLE.out _ (List.getElem_mem hi)
        clear hrow c1w r1w
        have c1 := HC1.out _ HT.out.kw
        go_wp2_with fail
        go_loopg [7] (row.length - 0) (fun n v7 wq => ∃ k : Nat, v7 = .int .i64 k ∧ Hid (k ≤ row.length ∧ row.length - k = n) ∧ Hid (Tw w1 wq bt gc i k))
        case atStart => exact ⟨0, rfl, Lib.hid ⟨Nat.zero_le _, rfl⟩, HT⟩
        case round =>
          clear HT c1
          obtain ⟨k, rfl, HKK, HT⟩ := hrel
          rename World => wq
          have c1 := HC1.out _ HT.out.kw
          by_cases hk : k < row.length
          · have hkk : (k : Int) < (row.length : Int) := by omega
            obtain ⟨b3, o3, rfl, c3w, hb3⟩ := ri_at2 HRI.out hk
            obtain ⟨z, hz⟩ : ∃ z, z = row[k] := ⟨_, rfl⟩
            have HZ : Hid (row[k]? = some z) := Lib.hid (by rw [hz]; simp [hk])
            rw [← hz] at c3w
            have HC3 : Hid (∀ W, Below w1.heap.size w1 W → W.cell? ⟨b3, o3 + k, none⟩ = some (.int .i64 z)) := Lib.hid fun W hW => (hW.cell hb3).trans c3w
            have c3 := HC3.out _ HT.out.kw
            clear c3w
            have hg1 : Rg wq (.slice (some ⟨bb, oo, none⟩) gc.length cg) gc := HG.out.below' HT.out.kw
            have hE := edge_any _ gc (i : Int) z wq hg1 HLE2.out
            clear hz hg1
            cases hez : edgeZ gc (i : Int) z
            · rw [hez] at hE
              have HE := Lib.hid hE
              have HEZ := Lib.hid hez
              clear hez hE
              go_wp2_with fail
              (with_reducible refine HE.out.mono ?_); rintro e w5 ⟨rfl, rfl⟩
              go_wp2_with fail
              go_roundg (row.length - (k + 1))
              case measure => have := HKK.out.2; omega
              case rel => exact ⟨k + 1, by simp, Lib.hid ⟨hk, rfl⟩, Lib.hid (by
                obtain ⟨⟨vs, ls, t1, t2⟩, t3, t4⟩ := HT.out
                exact ⟨⟨vs, ls, t1.no hi (by rw [HROW.out]; exact HZ.out) HEZ.out, t2⟩, t3, t4⟩)⟩
            · rw [hez] at hE
              have HE := Lib.hid hE
              have hez := of_decide_eq_true hez
              obtain ⟨y0, rfl⟩ : ∃ y0 : Nat, z = (y0 : Int) := ⟨z.toNat, by have := hez.2.2.1; omega⟩
              have hyl : y0 < gc.length := by have := hez.2.2.2.1; omega
              have hyy : (y0 : Int) < (gc.length : Int) := by omega
              clear hez hE
              obtain ⟨⟨vs, ls, t1, t2⟩, t3, t4⟩ := HT.out
              obtain ⟨l0, hl0⟩ : ∃ l0, ls[y0]? = some l0 := ⟨_, List.getElem?_eq_getElem (by rw [t1.len]; exact hyl)⟩
              obtain ⟨vv, hvv, ct, hrow⟩ := t2.get hl0
              obtain ⟨av, cv2, rfl⟩ := own_shape hrow
              obtain ⟨len, hlen⟩ : ∃ len, len = l0.length := ⟨_, rfl⟩
              have hlen2 : len ≤ 1000000 := by have := t1.short l0 (List.mem_of_getElem? hl0); omega
              rw [← hlen] at hvv ct hrow
              have hsz : bt + 1 ≤ wq.heap.size := t2.out.lt
              have hne2 : (Value.slice av len cv2).ownBlock ≠ some bt := t2.ne hvv
              have HVV := Lib.hid hvv
              have HT1 := Lib.hid t1
              have HT2 := Lib.hid t2
              have HT3 := Lib.hid t3
              have HT4 := Lib.hid t4
              have HL0 := Lib.hid hl0
              have HLN := Lib.hid hlen
              have hba : Below w1.heap.size w1 (wq.alloc (.cells #[.int .i64 (i : Int)] 3)) := t3.alloc t3.size _
              have c1a := HC1.out _ hba
              have c3a := HC3.out _ hba
              have cta : (wq.alloc (.cells #[.int .i64 (i : Int)] 3)).cell? ⟨bt, y0, none⟩ = some (.slice av len cv2) := (t2.out.kw (Kw.alloc wq (.cells #[.int .i64 (i : Int)] 3) (fun _ => False)) id).cell hvv
              have hown : Hid (∀ j, (Value.slice av len cv2).ownBlock = some j → bt + 1 ≤ j) := Lib.hid fun j e => (hrow.lt j e).1
              obtain ⟨xs, hxs⟩ : ∃ xs, xs = ints (nn l0) := ⟨_, rfl⟩
              rw [← hxs] at hrow
              have HFIN : Hid (∀ (gg cap : Nat) (w9 : World), w9.ownsRow (bt + 1) 3 1 (.slice (some ⟨gg, 0, none⟩) (len + 1) cap) (len + 1) (xs ++ [.int .i64 (i : Int)]) → Kw wq w9 (fun j => (Value.slice av len cv2).ownBlock = some j) → ((Value.slice av len cv2).ownBlock = some gg ∨ gg = wq.heap.size + 1) → Tw w1 (w9.setCell ⟨bt, y0, none⟩ (.slice (some ⟨gg, 0, none⟩) (len + 1) cap)) bt gc i (k + 1)) := Lib.hid fun gg cap w9 ho hk9 hat => by
                refine ⟨⟨_, _, HT1.out.yes (by rw [HROW.out]; exact HZ.out) HL0.out, HT2.out.step (l' := l0 ++ [i]) HVV.out HL0.out hk9 (by
                  rcases hat with h | h
                  · exact .inl h.symm
                  · exact .inr ⟨gg, rfl, by omega⟩) (by rw [List.length_append, List.length_singleton, ← HLN.out, show nn (l0 ++ [i]) = nn l0 ++ [(i : Int)] by simp, ints_snoc, ← hxs]; exact ho)⟩, ?_, HT4.out⟩
                have h1 := HT3.out.trans (hk9.below (fun j e => by have := hown.out j e; have := HT4.out; omega) HT3.out.size)
                exact h1.trans ((Kw.set w9 bt y0 _).below (fun j e => by have := HT4.out; omega) h1.size)
              obtain ⟨i0, z0, hi0, hz0, hsz0, hby0, hzs0⟩ := tyInts.hi
              clear hvv hl0 hlen t1 t2 t3 t4 hba hxs
              go_wp2_with fail
              (with_reducible refine HE.out.mono ?_); rintro e w5 ⟨rfl, rfl⟩
              go_upto_region 10 with fail
              have d1 := HC1.out _ HT3.out
              have d3 := HC3.out _ HT3.out
              refine Code.wp_mono NoPanic.imp ?_
              refine wp_region_held_drew (S := fun w' => w'.cell? ⟨bb, oo + i, none⟩ = some (.slice (some ⟨b3, o3, none⟩) row.length cu) ∧ w'.cell? ⟨b3, o3 + k, none⟩ = some (.int .i64 y0)) (by kernel_rfl) ⟨d1, d3⟩ (fun hHeld => ?_)
              (refine takeL 0 rfl (by kernel_rfl) (by kernel_rfl) (by kernel_rfl) (fun _ _ _ h => h) hHeld rfl (by intro w hSw; go_simp; try rfl) ?_); (simp only [Act.put, List.setIfInBounds_toArray, List.set_cons_zero, List.set_cons_succ])
              (refine takeL 1 rfl (by kernel_rfl) (by kernel_rfl) (by kernel_rfl) (fun _ _ _ h => h) hHeld rfl (by intro w hSw; go_simp; try rfl) ?_); (simp only [Act.put, List.setIfInBounds_toArray, List.set_cons_zero, List.set_cons_succ])
              (refine takeL 2 rfl (by kernel_rfl) (by kernel_rfl) (by kernel_rfl) (fun _ _ _ h => h) hHeld rfl (by intro w hSw; go_simp; try rfl) ?_); (simp only [Act.put, List.setIfInBounds_toArray, List.set_cons_zero, List.set_cons_succ])
              (refine takeL 3 rfl (by kernel_rfl) (by kernel_rfl) (by kernel_rfl) (fun _ _ _ h => h) hHeld rfl (by intro w hSw; go_simp; try rfl) ?_); (simp only [Act.put, List.setIfInBounds_toArray, List.set_cons_zero, List.set_cons_succ])
              (refine takeL 4 rfl (by kernel_rfl) (by kernel_rfl) (by kernel_rfl) (fun _ _ _ h => h) hHeld rfl (by intro w hSw; go_simp; try rfl) ?_); (simp only [Act.put, List.setIfInBounds_toArray, List.set_cons_zero, List.set_cons_succ])
              (refine takeL 5 rfl (by kernel_rfl) (by kernel_rfl) (by kernel_rfl) (fun _ _ _ h => h) hHeld rfl (by intro w hSw; go_simp; try rfl) ?_); (simp only [Act.put, List.setIfInBounds_toArray, List.set_cons_zero, List.set_cons_succ])
              (refine takeL 6 rfl (by kernel_rfl) (by kernel_rfl) (by kernel_rfl) (fun _ _ _ h => h) hHeld rfl (by intro w hSw; go_simp; try rfl) ?_); (simp only [Act.put, List.setIfInBounds_toArray, List.set_cons_zero, List.set_cons_succ])
              (refine takeL 7 rfl (by kernel_rfl) (by kernel_rfl) (by kernel_rfl) (fun _ _ _ h => h) hHeld rfl (by intro w hSw; go_simp; try rfl) ?_); (simp only [Act.put, List.setIfInBounds_toArray, List.set_cons_zero, List.set_cons_succ])
              (refine takeL 8 rfl (by kernel_rfl) (by kernel_rfl) (by kernel_rfl) (fun _ _ _ h => h) hHeld rfl (by intro w hSw; go_simp; try rfl) ?_); (simp only [Act.put, List.setIfInBounds_toArray, List.set_cons_zero, List.set_cons_succ])
              (refine takeL 9 rfl (by kernel_rfl) (by kernel_rfl) (by kernel_rfl) (fun _ _ _ h => h) hHeld rfl (by intro w hSw; go_simp; try rfl) ?_); (simp only [Act.put, List.setIfInBounds_toArray, List.set_cons_zero, List.set_cons_succ])
              (refine takeL 10 rfl (by kernel_rfl) (by kernel_rfl) (by kernel_rfl) (fun _ _ _ h => h) hHeld rfl (by intro w hSw; go_simp; try rfl) ?_); (simp only [Act.put, List.setIfInBounds_toArray, List.set_cons_zero, List.set_cons_succ])
              (refine takeL 11 rfl (by kernel_rfl) (by kernel_rfl) (by kernel_rfl) (fun _ _ _ h => h) hHeld rfl (by intro w hSw; go_simp; try rfl) ?_); (simp only [Act.put, List.setIfInBounds_toArray, List.set_cons_zero, List.set_cons_succ])
              (refine takeL 12 rfl (by kernel_rfl) (by kernel_rfl) (by kernel_rfl) (fun _ _ _ h => h) hHeld rfl (by intro w hSw; go_simp; try rfl) ?_); (simp only [Act.put, List.setIfInBounds_toArray, List.set_cons_zero, List.set_cons_succ])
              (refine takeL 13 rfl (by kernel_rfl) (by kernel_rfl) (by kernel_rfl) (fun _ _ _ h => h) hHeld rfl (by intro w hSw; go_simp; try rfl) ?_); (simp only [Act.put, List.setIfInBounds_toArray, List.set_cons_zero, List.set_cons_succ])
              (refine takeL 14 rfl (by kernel_rfl) (by kernel_rfl) (by kernel_rfl) (fun _ _ _ h => h) hHeld rfl (by intro w hSw; go_simp; try rfl) ?_); (simp only [Act.put, List.setIfInBounds_toArray, List.set_cons_zero, List.set_cons_succ])
              (refine takeL 15 rfl (by kernel_rfl) (by kernel_rfl) (by kernel_rfl) (fun _ _ _ h => h) hHeld rfl (by intro w hSw; go_simp; try rfl) ?_); (simp only [Act.put, List.setIfInBounds_toArray, List.set_cons_zero, List.set_cons_succ])
              (refine takeL 16 rfl (by kernel_rfl) (by kernel_rfl) (by kernel_rfl) (fun _ _ _ h => h) hHeld rfl (by intro w hSw; go_simp; try rfl) ?_); (simp only [Act.put, List.setIfInBounds_toArray, List.set_cons_zero, List.set_cons_succ])
              (refine takeL 18 rfl (by kernel_rfl) (by kernel_rfl) (by kernel_rfl) (fun _ _ _ h => h) hHeld rfl (by intro w hSw; go_simp; try rfl) ?_); (simp only [Act.put, List.setIfInBounds_toArray, List.set_cons_zero, List.set_cons_succ])
              refine wpAnyH_ready (rs := [17, 19]) (by kernel_rfl) (by simp) ?_
              refine consL rfl (fun K hK => ?_) (consL rfl (fun K hK => ?_) AllReadyH.nil)
              · go_simp
                refine hK.out _ _ ?_ (fun hHeld => ?_)
                · exact ⟨d1, d3⟩
                clear hK K
                try simp only [Act.put, List.setIfInBounds_toArray, List.set_cons_zero, List.set_cons_succ]
                refine wpAnyH_ready (rs := [19]) (by kernel_rfl) (by simp) ?_
                refine consL rfl (fun K hK => ?_) AllReadyH.nil
                go_simp
                refine hK.out _ _ ?_ (fun hHeld => ?_)
                · exact ⟨c1a, c3a⟩
                clear hK K
                try simp only [Act.put, List.setIfInBounds_toArray, List.set_cons_zero, List.set_cons_succ]
                refine wpAnyH_ready (rs := [20]) (by kernel_rfl) (by simp) ?_
                refine consL rfl (fun K hK => ?_) AllReadyH.nil
                refine step_append_lies _ (by rfl) _ _ _ (by rfl) (bt + 1) 3 i0 _ 1 8 Try.underlying23 hi0 hz0 hsz0 hby0 hzs0 (by omega) (.slice av len cv2) len _ (by rfl) ((hrow.alloc (.cells #[.int .i64 (i : Int)] 3)).drew) ⟨w5.heap.size, 0, none⟩ 1 1 [.int .i64 (i : Int)] (by rfl) (by rfl) (World.news_of_block (cs := #[.int .i64 (i : Int)]) (t := 3) (fr := (0, 0)) (heap_alloc_new w5 _)) (by simp [Value.oneCell']) (by omega) (by unfold maxLen; omega) (by omega) (by simp; omega) (w5.heap.size + 1) (by simp) ?_
                intro gg cap w9 hown1 hgrow hat _
                have k3 : Kw w5 w9 (fun j => (Value.slice av len cv2).ownBlock = some j) := ((Kw.alloc w5 (.cells #[.int .i64 (i : Int)] 3) (fun j => (Value.slice av len cv2).ownBlock = some j)).trans (Kw.drewN _ 1 (fun j => (Value.slice av len cv2).ownBlock = some j)) fun _ _ h => h).trans (Kw.of_grown hgrow) fun _ _ h => h
                have HK3 := Lib.hid k3
                have HO1 := Lib.hid hown1
                have HAT := Lib.hid hat
                have hb9 := HT3.out.trans (k3.below (fun j e => by have := hown.out j e; have := HT4.out; omega) HT3.out.size)
                clear hown1 hgrow hat
                have k1 := HC1.out _ hb9
                have k2 := HC3.out _ hb9
                have k4 := (HT2.out.out.kw k3 hne2).cell HVV.out
                have kf := (HT2.out.out.kw k3 hne2).free y0
                have hb10 := hb9.trans ((Kw.set w9 bt y0 (.slice (some ⟨gg, 0, none⟩) (len + 1) cap)).below (fun j e => by have := HT4.out; omega) hb9.size)
                have k5 := HC1.out _ hb10
                have k6 := HC3.out _ hb10
                clear k3 hb9 hb10
                refine hK.out _ _ ?_ (fun hHeld => ?_)
                · exact ⟨k1, k2⟩
                clear hK K
                try simp only [Act.put, List.setIfInBounds_toArray, List.set_cons_zero, List.set_cons_succ]
                (refine takeL 21 rfl (by kernel_rfl) (by kernel_rfl) (by kernel_rfl) (fun _ _ _ h => h) hHeld rfl (by intro w hSw; go_simp; try rfl) ?_); (simp only [Act.put, List.setIfInBounds_toArray, List.set_cons_zero, List.set_cons_succ])
                refine wpAnyH_ready (rs := [22]) (by kernel_rfl) (by simp) ?_
                refine consL rfl (fun K hK => ?_) AllReadyH.nil
                go_simp
                refine hK.out _ _ ?_ (fun hHeld => ?_)
                · exact ⟨k5, k6⟩
                clear hK K
                refine wpAnyH_done (by kernel_rfl) ?_ _
                refine NoPanic.normal ?_
                go_wp2_with fail
                go_roundg (row.length - (k + 1))
                case measure => have := HKK.out.2; omega
                case rel => exact ⟨k + 1, by simp, Lib.hid ⟨hk, rfl⟩, Lib.hid (HFIN.out gg cap w9 HO1.out HK3.out HAT.out)⟩
              · go_simp
                refine hK.out _ _ ?_ (fun hHeld => ?_)
                · exact ⟨c1a, c3a⟩
                clear hK K
                try simp only [Act.put, List.setIfInBounds_toArray, List.set_cons_zero, List.set_cons_succ]
                refine wpAnyH_ready (rs := [17]) (by kernel_rfl) (by simp) ?_
                refine consL rfl (fun K hK => ?_) AllReadyH.nil
                go_simp
                refine hK.out _ _ ?_ (fun hHeld => ?_)
                · exact ⟨c1a, c3a⟩
                clear hK K
                try simp only [Act.put, List.setIfInBounds_toArray, List.set_cons_zero, List.set_cons_succ]
                refine wpAnyH_ready (rs := [20]) (by kernel_rfl) (by simp) ?_
                refine consL rfl (fun K hK => ?_) AllReadyH.nil
                refine step_append_lies _ (by rfl) _ _ _ (by rfl) (bt + 1) 3 i0 _ 1 8 Try.underlying23 hi0 hz0 hsz0 hby0 hzs0 (by omega) (.slice av len cv2) len _ (by rfl) ((hrow.alloc (.cells #[.int .i64 (i : Int)] 3)).drew) ⟨w5.heap.size, 0, none⟩ 1 1 [.int .i64 (i : Int)] (by rfl) (by rfl) (World.news_of_block (cs := #[.int .i64 (i : Int)]) (t := 3) (fr := (0, 0)) (heap_alloc_new w5 _)) (by simp [Value.oneCell']) (by omega) (by unfold maxLen; omega) (by omega) (by simp; omega) (w5.heap.size + 1) (by simp) ?_
                intro gg cap w9 hown1 hgrow hat _
                have k3 : Kw w5 w9 (fun j => (Value.slice av len cv2).ownBlock = some j) := ((Kw.alloc w5 (.cells #[.int .i64 (i : Int)] 3) (fun j => (Value.slice av len cv2).ownBlock = some j)).trans (Kw.drewN _ 1 (fun j => (Value.slice av len cv2).ownBlock = some j)) fun _ _ h => h).trans (Kw.of_grown hgrow) fun _ _ h => h
                have HK3 := Lib.hid k3
                have HO1 := Lib.hid hown1
                have HAT := Lib.hid hat
                have hb9 := HT3.out.trans (k3.below (fun j e => by have := hown.out j e; have := HT4.out; omega) HT3.out.size)
                clear hown1 hgrow hat
                have k1 := HC1.out _ hb9
                have k2 := HC3.out _ hb9
                have k4 := (HT2.out.out.kw k3 hne2).cell HVV.out
                have kf := (HT2.out.out.kw k3 hne2).free y0
                have hb10 := hb9.trans ((Kw.set w9 bt y0 (.slice (some ⟨gg, 0, none⟩) (len + 1) cap)).below (fun j e => by have := HT4.out; omega) hb9.size)
                have k5 := HC1.out _ hb10
                have k6 := HC3.out _ hb10
                clear k3 hb9 hb10
                refine hK.out _ _ ?_ (fun hHeld => ?_)
                · exact ⟨k1, k2⟩
                clear hK K
                try simp only [Act.put, List.setIfInBounds_toArray, List.set_cons_zero, List.set_cons_succ]
                (refine takeL 21 rfl (by kernel_rfl) (by kernel_rfl) (by kernel_rfl) (fun _ _ _ h => h) hHeld rfl (by intro w hSw; go_simp; try rfl) ?_); (simp only [Act.put, List.setIfInBounds_toArray, List.set_cons_zero, List.set_cons_succ])
                refine wpAnyH_ready (rs := [22]) (by kernel_rfl) (by simp) ?_
                refine consL rfl (fun K hK => ?_) AllReadyH.nil
                go_simp
                refine hK.out _ _ ?_ (fun hHeld => ?_)
                · exact ⟨k5, k6⟩
                clear hK K
                refine wpAnyH_done (by kernel_rfl) ?_ _
                refine NoPanic.normal ?_
                go_wp2_with fail
                go_roundg (row.length - (k + 1))
                case measure => have := HKK.out.2; omega
                case rel => exact ⟨k + 1, by simp, Lib.hid ⟨hk, rfl⟩, Lib.hid (HFIN.out gg cap w9 HO1.out HK3.out HAT.out)⟩
          · obtain rfl : k = row.length := by have := HKK.out.1; omega
            go_wp2_with fail
            go_roundg (gc.length - (i + 1))
            case measure => have := HI.out.2; omega
            case rel => exact ⟨i + 1, by simp, Lib.hid ⟨hi, rfl⟩, Lib.hid (by
              obtain ⟨⟨vs, ls, t1, t2⟩, t3, t4⟩ := HT.out
              exact ⟨⟨vs, ls, Tin.next hi (by rw [HROW.out]; exact t1) (by rw [HROW.out]; exact hrl), t2⟩, t3, t4⟩)⟩
      · obtain rfl : i = gc.length := by have := HI.out.1; omega
        go_wp2_with fail
        go_meet
        exact HT
    --END 1
  case rest =>
    --BEGIN 2
    have HT := hcut
    rename World => w3
    obtain ⟨ls, ht, hr⟩ := HT.out.rg rfl
    obtain ⟨t, htd⟩ : ∃ t, t = ls.map nn := ⟨_, rfl⟩
    have htl : t.length = gc.length := by rw [htd, List.length_map, ht.len]
    have HTS : Hid (∀ l ∈ t, l.length ≤ 1000) := Lib.hid (by
      intro l hl
      rw [htd] at hl
      obtain ⟨x, hx, rfl⟩ := List.mem_map.1 hl
      have := ht.short x hx
      rw [List.length_map]; omega)
    have hgt := groups_turned htl (by rw [htd]; exact ht.done)
    rw [← htd] at hr
    obtain ⟨la, hla⟩ : ∃ la, la = (groups gc).map nn := ⟨_, rfl⟩
    obtain ⟨lb, hlb⟩ : ∃ lb, lb = (groups t).map nn := ⟨_, rfl⟩
    have hlab : lb.length = la.length := by rw [hla, hlb, List.length_map, List.length_map]; exact hgt.1
    have HMEM : Hid (∀ x ∈ la, x ∈ lb) := Lib.hid (by
      intro x hx
      rw [hla] at hx
      obtain ⟨y, hy, rfl⟩ := List.mem_map.1 hx
      rw [hlb]
      exact List.mem_map.2 ⟨y, (hgt.2 y).1 hy, rfl⟩)
    have hlal : la.length ≤ 1000 := by rw [hla, List.length_map]; have := groups_len gc; omega
    have HLA : Hid (∀ l ∈ la, l.length ≤ 1000000) := Lib.hid (by rw [hla]; exact groups_each gc (by omega))
    have HR := Lib.hid hr
    have HG3 := Lib.hid (HG.out.below' HT.out.kw)
    have HB3 := Lib.hid (HB.out.trans (HT.out.kw.mono HB.out.size))
    clear hgt htd hr ht HG HB hcut HT0
    have hA := groups_any gc _ w3 HG3.out (by omega) HLE2.out
    rw [← hla] at hA
    have HA := Lib.hid hA
    have HBB := Lib.hid (fun W (hW : Below w3.heap.size w3 W) => groups_any t _ W (HR.out.below' hW) (by omega) HTS.out)
    rw [← hlb] at HBB
    clear hA hla hlb HT
    go_wp2_with fail
    (with_reducible refine HA.out.mono ?_); rintro e wa ⟨va, rfl, ra, ba⟩
    have HRA := Lib.hid ra
    have HB3 := Lib.hid (HB3.out.trans (ba.mono HB3.out.size))
    have HBA := Lib.hid (HBB.out wa ba)
    clear ra ba HBB
    go_wp2_with fail
    (with_reducible refine HBA.out.mono ?_); rintro e wb ⟨vb, rfl, rb, bb⟩
    have HRB := Lib.hid rb
    have HRA := Lib.hid (HRA.out.below' bb)
    have HB3 := Lib.hid (HB3.out.trans (bb.mono HB3.out.size))
    clear rb bb HBA HA HG3 HR
    obtain ⟨aa, ca, hva⟩ := HRA.out.shape
    subst hva
    obtain ⟨ab, cb, hvb⟩ := HRB.out.shape
    rw [hlab] at hvb
    subst hvb
    have hneq : ((la.length : Int) != (la.length : Int)) = false := by simp
    go_wp2_with fail
    go_loopg [10] (la.length - 0) (fun n v10 wr => ∃ i : Nat, v10 = .int .i64 i ∧ Hid (i ≤ la.length ∧ la.length - i = n) ∧ Hid (Below wb.heap.size wb wr))
    case atStart => exact ⟨0, rfl, Lib.hid ⟨Nat.zero_le _, rfl⟩, Lib.hid (Below.refl _ _)⟩
    case round =>
      obtain ⟨i, rfl, HI, HBR⟩ := hrel
      by_cases hi : i < la.length
      · have hii : (i : Int) < (la.length : Int) := by omega
        obtain ⟨b1, o1, u1, rfl, c1w, r1, hb1, _⟩ := HRA.out.at hi
        obtain ⟨row, hrow⟩ : ∃ row, row = la[i] := ⟨_, rfl⟩
        rw [← hrow] at r1
        have HROW : Hid (row ∈ lb) := Lib.hid (HMEM.out _ (by rw [hrow]; exact List.getElem_mem hi))
        have hrl : row.length ≤ 1000000 := HLA.out _ (by rw [hrow]; exact List.getElem_mem hi)
        obtain ⟨au, cu, hus⟩ := r1.shape
        subst hus
        have HC1 : Hid (∀ W, Below wb.heap.size wb W → W.cell? ⟨b1, o1 + i, none⟩ = some (.slice au row.length cu)) := Lib.hid fun W hW => (hW.cell hb1).trans c1w
        have HRI := Lib.hid r1
        clear hrow c1w r1
        go_wp2_with fail
        go_loopg [11, 12] (la.length - 0) (fun n v11 v12 wq => ∃ (k : Nat) (is : Bool), v11 = .bool is ∧ v12 = .int .i64 k ∧ Hid (k ≤ la.length ∧ la.length - k = n) ∧ Hid (is = decide (row ∈ lb.take k)) ∧ Hid (Below wb.heap.size wb wq))
        case atStart => exact ⟨0, false, rfl, rfl, Lib.hid ⟨Nat.zero_le _, rfl⟩, Lib.hid (by simp), HBR⟩
        case round =>
          clear HBR
          obtain ⟨k, is, rfl, rfl, HK, HIS, HBQ⟩ := hrel
          rename World => wq
          by_cases hk : k < la.length
          · have hkk : (k : Int) < (la.length : Int) := by omega
            have hkl : k < lb.length := by omega
            obtain ⟨b2, o2, u2, rfl, c2w, r2, hb2, _⟩ := HRB.out.at hkl
            obtain ⟨row2, hrow2⟩ : ∃ row2, row2 = lb[k] := ⟨_, rfl⟩
            rw [← hrow2] at r2
            have HR2 : Hid (lb[k]? = some row2) := Lib.hid (by rw [hrow2]; exact List.getElem?_eq_getElem hkl)
            obtain ⟨av, cv, hus⟩ := r2.shape
            subst hus
            have HE : Hid (∀ m, Calls Try.prog 12 #[.slice au row.length cu, .slice av row2.length cv] (wq.drewN m) fun e w' => e = .returned (.bool (decide (row = row2))) ∧ ∃ n, w' = (wq.drewN m).drewN n) := Lib.hid fun m => ints_any _ _ row row2 _ ((HRI.out.below' HBQ.out).drewN m) ((r2.below' HBQ.out).drewN m) hrl
            have c1m : ∀ m, (wq.drewN m).cell? ⟨b1, o1 + i, none⟩ = some (.slice au row.length cu) := fun m => HC1.out _ (below_drewN HBQ.out m)
            have c2m : ∀ m, (wq.drewN m).cell? ⟨b2, o2 + k, none⟩ = some (.slice av row2.length cv) := fun _ => (HBQ.out.cell hb2).trans c2w
            clear c2w r2 hrow2
            cases is
            · go_wp2_with fail
              go_quiet (first | (go_at_call 12; refine Calls.quiet_of (HE.out _)) | fail)
              revert nq; intro m1
              go_wp2_with fail
              go_roundg (la.length - (k + 1))
              case measure => have := HK.out.2; omega
              case rel => exact ⟨k + 1, decide (row = row2), rfl, by simp, Lib.hid ⟨hk, rfl⟩, Lib.hid (by
                have h := of_decide_eq_false HIS.out.symm
                rw [List.take_add_one, HR2.out]
                exact decide_eq_decide.2 ⟨fun e => by rw [e]; simp, fun e => by
                  rcases List.mem_append.1 e with e | e
                  · exact absurd e h
                  · simpa using e⟩), Lib.hid (below_drewN HBQ.out m1)⟩
            · go_wp2_with fail
              go_quiet (fail)
              revert nq; intro m1
              go_wp2_with fail
              go_roundg (la.length - (k + 1))
              case measure => have := HK.out.2; omega
              case rel => exact ⟨k + 1, true, rfl, by simp, Lib.hid ⟨hk, rfl⟩, Lib.hid (by
                have h := of_decide_eq_true HIS.out.symm
                rw [List.take_add_one]
                exact (decide_eq_true (List.mem_append_left _ h)).symm), Lib.hid (below_drewN HBQ.out m1)⟩
          · obtain rfl : k = la.length := by have := HK.out.1; omega
            obtain rfl : is = true := by rw [HIS.out, List.take_of_length_le (by omega)]; exact decide_eq_true HROW.out
            go_wp2_with fail
            go_roundg (la.length - (i + 1))
            case measure => have := HI.out.2; omega
            case rel => exact ⟨i + 1, by simp, Lib.hid ⟨hi, rfl⟩, HBQ⟩
      · obtain rfl : i = la.length := by have := HI.out.1; omega
        have HB4 := Lib.hid (HB3.out.trans (HBR.out.mono HB3.out.size))
        clear HRA HRB HBR HB3
        rename World => w4
        obtain ⟨r, hr⟩ : ∃ r, r = y % 20 := ⟨_, rfl⟩
        have hr1 : Int.tmod (y : Int) 20 = (r : Int) := by rw [hr]; rfl
        have hr2 : r < 20 := by rw [hr]; exact Nat.mod_lt _ (by decide)
        obtain ⟨m, hm⟩ : ∃ m : Nat, 2 + (r : Int) = (m : Int) := ⟨2 + r, by simp⟩
        clear hr
        have tyGrid : SlTy Try.prog 22 23 1 24 := SlTy.mk' (z := .slice none 0 0) Try.underlying22 (by kernel_rfl) rfl (by decide)
        have HP0 : Hid (Pr ((w4.alloc (.cells #[] 23)).alloc (.cells #[] 23)) w4.heap.size 23 (.slice (some ⟨w4.heap.size, 0, none⟩) 0 0) ((ringG m).take 0) (.slice (some ⟨w4.heap.size + 1, 0, none⟩) 0 0) ((lineG m).take 0)) := Lib.hid (Pr.made w4 w4.heap.size 23 (Nat.le_refl _))
        have HB0 := Lib.hid (((Below.refl w4.heap.size w4).alloc (Nat.le_refl _) (.cells #[] 23)).alloc (by simp) (.cells #[] 23))
        have hm2 : 2 ≤ m ∧ m ≤ 21 := by omega
        have hm0 : ((m : Int) == 0) = false := beq_eq_false_iff_ne.2 (by omega)
        go_wp2_with fail
        go_loopg [14, 15, 16] (m - 0) (fun n v14 v15 v16 wr => ∃ (i : Nat) (va vb : Value), va = v14 ∧ vb = v15 ∧ v16 = .int .i64 i ∧ Hid (i ≤ m ∧ m - i = n) ∧ Hid (Pr wr w4.heap.size 23 va ((ringG m).take i) vb ((lineG m).take i)) ∧ Hid (Below w4.heap.size w4 wr))
        case atStart => exact ⟨0, _, _, rfl, rfl, rfl, Lib.hid ⟨Nat.zero_le _, rfl⟩, HP0, HB0⟩
        case round =>
          clear HP0 HB0
          obtain ⟨i, va, vb, rfl, rfl, rfl, HI, HP, HBR⟩ := hrel
          by_cases hi : i < m
          · have hii : (i : Int) < (m : Int) := by omega
            obtain ⟨q, hq⟩ : ∃ q, q = (i + 1) % m := ⟨_, rfl⟩
            have hq1 : Int.tmod ((i : Int) + 1) (m : Int) = (q : Int) := by rw [hq]; rfl
            have HRQ : Hid ((ringG m).take (i + 1) = (ringG m).take i ++ [[(q : Int)]]) := Lib.hid (by rw [List.take_add_one, ringG, tb_get hi, hq]; rfl)
            have HLQ : Hid ((lineG m).take (i + 1) = (lineG m).take i ++ [[(i : Int) + 1]]) := Lib.hid (by rw [List.take_add_one, lineG, tb_get hi]; rfl)
            have hlr : ((ringG m).take i).length ≤ 21 := by rw [List.length_take]; omega
            have hll : ((lineG m).take i).length ≤ 21 := by rw [List.length_take]; omega
            have hs4 : w4.heap.size ≤ wr.heap.size := HBR.out.size
            have ba : Below wr.heap.size wr (wr.alloc (.cells #[.int .i64 (q : Int)] 3)) := (Below.refl _ _).alloc (Nat.le_refl _) _
            have hpa := HP.out.below' ba
            have HBA := Lib.hid (HBR.out.trans (ba.mono hs4))
            have hua : Ri (wr.alloc (.cells #[.int .i64 (q : Int)] 3)) (.slice (some ⟨wr.heap.size, 0, none⟩) 1 1) [(q : Int)] := lit1 wr [(q : Int)] rfl
            have hsa : w4.heap.size ≤ (wr.alloc (.cells #[.int .i64 (q : Int)] 3)).heap.size := HBA.out.size
            have hua2 := HP.out.one.og.under
            have hub2 := HP.out.two.og.under
            have hsep : ∀ b, (Value.slice (some ⟨wr.heap.size, 0, none⟩) 1 1).ownBlock = some b → b < (wr.alloc (.cells #[.int .i64 (q : Int)] 3)).heap.size ∧ va.ownBlock ≠ some b ∧ w4.heap.size ≤ b ∧ vb.ownBlock ≠ some b := fun b hb => by
              have e : wr.heap.size = b := by simpa [Value.ownBlock] using hb
              refine ⟨by rw [alloc_size]; omega, fun h => ?_, by omega, fun h => ?_⟩
              · have := hua2 b h; omega
              · have := hub2 b h; omega
            clear ba hua2 hub2 hq
            go_upto_region 30 with (first
              | (at_builtin; refine wp_pr tyGrid rfl _ _ rfl w4.heap.size hpa hua hsep rfl rfl (by simp) rfl (by omega) (by omega) hsa ?_; intro v5 w5 p5 d5; have HP5 := Lib.hid p5; have HD5 := Lib.hid d5; clear p5 d5)
              | fail)
            clear hpa hua hsep hsa
            have HB5 := Lib.hid (HBA.out.trans HD5.out)
            rw [← HRQ.out] at HP5
            have hs5 : w4.heap.size ≤ w5.heap.size := HB5.out.size
            have ba : Below w5.heap.size w5 (w5.alloc (.cells #[.int .i64 ((i : Int) + 1)] 3)) := (Below.refl _ _).alloc (Nat.le_refl _) _
            have hpa := HP5.out.swap.below' ba
            have HBA := Lib.hid (HB5.out.trans (ba.mono hs5))
            have hua : Ri (w5.alloc (.cells #[.int .i64 ((i : Int) + 1)] 3)) (.slice (some ⟨w5.heap.size, 0, none⟩) 1 1) [(i : Int) + 1] := lit1 w5 [(i : Int) + 1] rfl
            have hsa : w4.heap.size ≤ (w5.alloc (.cells #[.int .i64 ((i : Int) + 1)] 3)).heap.size := HBA.out.size
            have hua2 := HP5.out.one.og.under
            have hub2 := HP5.out.two.og.under
            have hsep : ∀ b, (Value.slice (some ⟨w5.heap.size, 0, none⟩) 1 1).ownBlock = some b → b < (w5.alloc (.cells #[.int .i64 ((i : Int) + 1)] 3)).heap.size ∧ vb.ownBlock ≠ some b ∧ w4.heap.size ≤ b ∧ v5.ownBlock ≠ some b := fun b hb => by
              have e : w5.heap.size = b := by simpa [Value.ownBlock] using hb
              refine ⟨by rw [alloc_size]; omega, fun h => ?_, by omega, fun h => ?_⟩
              · have := hub2 b h; omega
              · have := hua2 b h; omega
            clear ba hua2 hub2
            go_wp2_with (first
              | (at_builtin; refine wp_pr tyGrid rfl _ _ rfl w4.heap.size hpa hua hsep rfl rfl (by simp) rfl (by omega) (by omega) hsa ?_; intro v7 w7 p7 d7; have HP7 := Lib.hid p7; have HD7 := Lib.hid d7; clear p7 d7)
              | fail)
            go_roundg (m - (i + 1))
            case measure => have := HI.out.2; omega
            case rel => exact ⟨i + 1, v5, v7, rfl, rfl, by simp, Lib.hid ⟨hi, rfl⟩, Lib.hid (by rw [HLQ.out]; exact HP7.out.swap), Lib.hid (HBA.out.trans HD7.out)⟩
          · obtain rfl : i = m := by have := HI.out.1; omega
            have h1 := HP.out.one.og.rts
            have h2 := HP.out.two.og.rts
            rw [List.take_of_length_le (by rw [ringG_len]; exact Nat.le_refl _)] at h1
            rw [List.take_of_length_le (by rw [lineG_len]; exact Nat.le_refl _)] at h2
            have HRI := Lib.hid h1
            have HLI := Lib.hid h2
            have HB5 := Lib.hid (HB4.out.trans (HBR.out.mono HB4.out.size))
            have hgl := groups_any (lineG i) vb wr h2 (by rw [lineG_len]; omega) (fun l hl => by rw [lineG_each hl]; decide)
            have HGL := Lib.hid hgl
            clear h1 h2 hgl
            go_wp2_with fail
            (with_reducible refine HGL.out.mono ?_); rintro e w6 ⟨vx, rfl, rx, bx⟩
            have HRI := Lib.hid (HRI.out.below' bx)
            have HLI := Lib.hid (HLI.out.below' bx)
            have HB6 := Lib.hid (HB5.out.trans (bx.mono HB5.out.size))
            have hlx : ((groups (lineG i)).map nn).length = i := by rw [List.length_map, lineG_many]
            obtain ⟨ax, cx, hvx⟩ := rx.shape
            rw [hlx] at hvx
            subst hvx
            obtain ⟨b0, o0, u0, rfl, c0w, r0w, hb0, _⟩ := rx.at (i := 0) (by rw [hlx]; omega)
            obtain ⟨x0, hx0⟩ : ∃ x0, x0 = ((groups (lineG i)).map nn)[0]'(by rw [hlx]; omega) := ⟨_, rfl⟩
            rw [← hx0] at r0w
            have HCY : Hid (cyc (lineG i) x0 = false) := Lib.hid (by
              have hm0 : x0 ∈ (groups (lineG i)).map nn := by rw [hx0]; exact List.getElem_mem _
              obtain ⟨y0, hy0, rfl⟩ := List.mem_map.1 hm0
              exact lineG_cyc hy0)
            have hx0l : x0.length ≤ 1000 := by
              have hm0 : x0 ∈ (groups (lineG i)).map nn := by rw [hx0]; exact List.getElem_mem _
              have := groups_short (lineG i) (by rw [lineG_len]; omega) x0 hm0
              exact this
            obtain ⟨au0, cu0, hu0⟩ := r0w.shape
            subst hu0
            rw [Nat.add_zero] at c0w
            have HC0 : Hid (∀ W, Below w6.heap.size w6 W → W.cell? ⟨b0, o0, none⟩ = some (.slice au0 x0.length cu0)) := Lib.hid fun W hW => (hW.cell hb0).trans c0w
            have HR0 := Lib.hid r0w
            clear rx c0w r0w hx0 bx HGL HP
            have hgr := groups_any (ringG i) va w6 HRI.out (by rw [ringG_len]; omega) (fun l hl => by rw [ringG_each hl]; decide)
            have HGR := Lib.hid hgr
            clear hgr
            go_wp2_with fail
            (with_reducible refine HGR.out.mono ?_); rintro e w7 ⟨vy, rfl, ry, by7⟩
            have hly : ((groups (ringG i)).map nn).length = 1 := by rw [List.length_map, ringG_one (by omega)]
            obtain ⟨ay, cy, hvy⟩ := ry.shape
            rw [hly] at hvy
            subst hvy
            have HB67 := Lib.hid by7
            have HRI := Lib.hid (HRI.out.below' by7)
            have HLI := Lib.hid (HLI.out.below' by7)
            have HB7 := Lib.hid (HB6.out.trans (by7.mono HB6.out.size))
            have c0 := HC0.out _ HB67.out
            have HY := Lib.hid (cyclic_any vb (.slice au0 x0.length cu0) (lineG i) x0 w7 HLI.out (HR0.out.below' HB67.out) hx0l (fun l hl => by rw [lineG_each hl]; decide))
            rw [HCY.out] at HY
            clear ry by7 hly HGR HB6
            go_wp2_with fail
            (with_reducible refine HY.out.mono ?_); rintro e w8 ⟨rfl, b8⟩
            have HRI := Lib.hid (HRI.out.below' b8)
            have HB8 := Lib.hid (HB7.out.trans (b8.mono HB7.out.size))
            have hl8 := lit1 w8 [0, 1] (n := 2) rfl
            have b9 : Below w8.heap.size w8 (w8.alloc (.cells #[.int .i64 0, .int .i64 1] 3)) := (Below.refl _ _).alloc (Nat.le_refl _) _
            have hy2 := cyclic_any va (.slice (some ⟨w8.heap.size, 0, none⟩) 2 2) (ringG i) [0, 1] (w8.alloc (.cells #[.int .i64 0, .int .i64 1] 3)) (HRI.out.below' b9) hl8 (by decide) (fun l hl => by rw [ringG_each hl]; decide)
            rw [ringG_cyc (by omega)] at hy2
            have HY2 := Lib.hid hy2
            have HB9 := Lib.hid (HB8.out.trans (b9.mono HB8.out.size))
            clear b8 hl8 b9 hy2 HY HB7
            go_wp2_with fail
            (with_reducible refine HY2.out.mono ?_); rintro e w10 ⟨rfl, b10⟩
            have HB10 := Lib.hid (HB9.out.trans (b10.mono HB9.out.size))
            clear b10
            go_wp2_with fail
            (with_reducible refine (fixed_any _).mono ?_); rintro e w11 ⟨rfl, b11⟩
            go_wp2_with fail
            go_ret
            exact ⟨ret_bool rfl, HB10.out.trans (b11.mono HB10.out.size)⟩
    --END 2
end Go.Proofs.Ytemdhbeegheefaa
