
/- The program's Reach, walked. No condition. -/
import Derived.Test.YtemdhbeegheefaaGrRefB
import Derived.Test.YtemdhbeegheefaaGrFrom
import Derived.Test.YtemdhbeegheefaaGrRows
import Derived.Test.YtemdhbeegheefaaGrSets
import Derived.Test.YtemdhbeegheefaaShelf
import Derived.Sort.OwnSortedInts
namespace Go.Proofs.Ytemdhbeegheefaa
open Go.RowKit Gr
namespace Gr
/-- What the search for all that ways lead to keeps: what is to be gone through, what was found. cur: the node that is gone through, and how many of its edges are. -/
structure Wy (g : G) (i : Nat) (td out : List Nat) (cur : Option (Nat × Nat)) : Prop where
  nd : out.Nodup
  sound : ∀ k ∈ out, ∃ j, E g i j ∧ R g j k
  tds : ∀ x ∈ td, x = i ∨ x ∈ out
  cn : ∀ x e, cur = some (x, e) → (x = i ∨ x ∈ out) ∧ ∀ t k : Nat, t < e → (g.getD x [])[t]? = some (k : Int) → k < g.length → k ∈ out
  done : ∀ x, (x = i ∨ x ∈ out) → x ∉ td → (∀ e, cur ≠ some (x, e)) → ∀ k, E g x k → k ∈ out
  len : td.length ≤ out.length + 1
theorem Wy.start (g : G) (i : Nat) : Wy g i [i] [] none where
  nd := List.nodup_nil
  sound := by simp
  tds := by simp
  cn := by simp
  done := by
    intro x hx hn
    rcases hx with rfl | h
    · simp at hn
    · cases h
  len := by simp
theorem Wy.outLt {g : G} {i : Nat} {td out : List Nat} {cur : Option (Nat × Nat)} (h : Wy g i td out cur) : ∀ k ∈ out, k < g.length := fun k hk => by
  obtain ⟨j, h1, h2⟩ := h.sound k hk
  exact h2.lt h1.2.1
theorem Wy.outLen {g : G} {i : Nat} {td out : List Nat} {cur : Option (Nat × Nat)} (h : Wy g i td out cur) : out.length ≤ g.length := nodup_len _ _ h.nd h.outLt
theorem Wy.pop {g : G} {i x : Nat} {td out : List Nat} (h : Wy g i (td ++ [x]) out none) : Wy g i td out (some (x, 0)) where
  nd := h.nd
  sound := h.sound
  tds := fun y hy => h.tds y (List.mem_append_left _ hy)
  cn := by
    intro y e he
    injection he with he
    injection he with h1 h2
    subst h1 h2
    exact ⟨h.tds x (by simp), fun t k ht => by omega⟩
  done := by
    intro y hy hn hc k hE
    by_cases hyx : y = x
    · exact absurd rfl (by rw [hyx] at hc; exact hc 0)
    · exact h.done y hy (by simp [hn, hyx]) (by simp) k hE
  len := by have := h.len; simp at this; omega
theorem Wy.skip {g : G} {i x e : Nat} {td out : List Nat} (h : Wy g i td out (some (x, e))) (hk : ∀ k : Nat, (g.getD x [])[e]? = some (k : Int) → k < g.length → k ∈ out) : Wy g i td out (some (x, e + 1)) where
  nd := h.nd
  sound := h.sound
  tds := h.tds
  cn := by
    intro y e' he
    injection he with he
    injection he with h1 h2
    subst h1 h2
    refine ⟨(h.cn x e rfl).1, fun t k ht hg hkl => ?_⟩
    rcases Nat.lt_or_eq_of_le (Nat.le_of_lt_succ ht) with h3 | h3
    · exact (h.cn x e rfl).2 t k h3 hg hkl
    · subst h3; exact hk k hg hkl
  done := fun y hy hn hc k hE => h.done y hy hn (fun e' he => by
    injection he with he
    injection he with h1 h2
    subst h1
    exact hc (e + 1) rfl) k hE
  len := h.len
theorem Wy.add {g : G} {i x e k : Nat} {td out : List Nat} (h : Wy g i td out (some (x, e))) (hx : x < g.length) (hk : (g.getD x [])[e]? = some (k : Int)) (hkl : k < g.length) (hno : k ∉ out) : Wy g i (td ++ [k]) (out ++ [k]) (some (x, e + 1)) := by
  have hE : E g x k := ⟨hx, hkl, List.mem_of_getElem? hk⟩
  have h1 : Wy g i (td ++ [k]) (out ++ [k]) (some (x, e)) := {
    nd := by
      rw [List.nodup_append]
      exact ⟨h.nd, by simp, fun a ha b hb e => hno (by rw [List.mem_singleton.1 hb] at e; rw [← e]; exact ha)⟩
    sound := by
      intro y hy
      rcases List.mem_append.1 hy with hy | hy
      · exact h.sound y hy
      · rw [List.mem_singleton.1 hy]
        rcases (h.cn x e rfl).1 with rfl | hm
        · exact ⟨k, hE, .refl k⟩
        · obtain ⟨j, h2, h3⟩ := h.sound x hm
          exact ⟨j, h2, h3.tail hE⟩
    tds := by
      intro y hy
      rcases List.mem_append.1 hy with hy | hy
      · rcases h.tds y hy with h2 | h2
        · exact .inl h2
        · exact .inr (List.mem_append_left _ h2)
      · exact .inr (List.mem_append_right _ hy)
    cn := by
      intro y e' he
      obtain ⟨h2, h3⟩ := h.cn y e' he
      exact ⟨h2.imp id (List.mem_append_left _), fun t z ht hg hz => List.mem_append_left _ (h3 t z ht hg hz)⟩
    done := by
      intro y hy hn hc z hz
      have hyk : y ≠ k := fun e => hn (by simp [e])
      have hy2 : y = i ∨ y ∈ out := hy.imp id fun hm => by
        rcases List.mem_append.1 hm with hm | hm
        · exact hm
        · exact absurd (List.mem_singleton.1 hm) hyk
      exact List.mem_append_left _ (h.done y hy2 (fun hm => hn (List.mem_append_left _ hm)) hc z hz)
    len := by have := h.len; simp; omega }
  refine h1.skip fun z hz _ => ?_
  rw [hk] at hz
  injection hz with hz
  have : k = z := by omega
  rw [← this]; simp
theorem Wy.next {g : G} {i x e : Nat} {td out : List Nat} (h : Wy g i td out (some (x, e))) (he : (g.getD x []).length ≤ e) : Wy g i td out none where
  nd := h.nd
  sound := h.sound
  tds := h.tds
  cn := by simp
  done := by
    intro y hy hn _ k hE
    by_cases hyx : y = x
    · subst hyx
      obtain ⟨t, ht⟩ := List.getElem?_of_mem hE.2.2
      exact (h.cn y e rfl).2 t k (by have := (List.getElem?_eq_some_iff.1 ht).1; omega) ht hE.2.1
    · exact h.done y hy hn (fun e' he' => by injection he' with he'; injection he' with h1 _; exact hyx h1.symm) k hE
  len := h.len
theorem Wy.fin {g : G} {i : Nat} {out : List Nat} (h : Wy g i [] out none) : ∀ k, k ∈ out ↔ way g i k = true := by
  intro k
  rw [way_iff]
  constructor
  · exact h.sound k
  · rintro ⟨j, h1, h2⟩
    have hj : j ∈ out := h.done i (.inl rfl) (by simp) (by simp) j h1
    induction h2 with
    | refl => exact hj
    | tail _ hE ih => exact h.done _ (.inr ih) (by simp) (by simp) _ hE
theorem sorted_reach {g : G} {i : Nat} {out : List Nat} (h : Wy g i [] out none) : (nn out).mergeSort (fun x y => decide (x ≤ y)) = nn (reach g i) := by
  have hp : (nn out).Perm (nn (reach g i)) := (((List.perm_ext_iff_of_nodup h.nd ((reach_sorted g i).imp fun {a b} hab e => by omega)).2 fun k => by rw [h.fin k, reach_mem]).map _)
  have hs : (nn (reach g i)).Pairwise (fun x y => decide (x ≤ y) = true) := by
    rw [List.pairwise_map]
    exact (reach_sorted g i).imp fun {a b} hab => by simp; omega
  refine List.Perm.eq_of_pairwise (le := fun x y => decide (x ≤ y) = true) (fun a b _ _ h1 h2 => by simp at h1 h2; omega) (List.pairwise_mergeSort (fun a b c h1 h2 => by simp at *; omega) (fun a b => by simp; omega) _) hs ((List.mergeSort_perm _ _).trans hp)
/-- Where a way leads, whatever the number. -/
def seenL (g : G) (out : List Nat) : List Bool := tab g.length fun k => decide (k ∈ out)
theorem seenL_add (g : G) (out : List Nat) (k : Nat) : (seenL g out).set k true = seenL g (out ++ [k]) := by
  unfold seenL
  rw [tab_set]
  apply tab_congr
  intro x _
  by_cases e : x = k
  · simp [e]
  · simp [e]
theorem seenL_get (g : G) (out : List Nat) (k : Nat) (hk : k < g.length) : (seenL g out).getD k false = decide (k ∈ out) := tab_get _ _ _ hk
def reachZ (g : G) (i : Int) : List Nat := if 0 ≤ i ∧ i < (g.length : Int) then reach g i.toNat else []
end Gr

set_option maxRecDepth 20000 in
set_option maxHeartbeats 8000000 in
/-- 'Reach'. -/
theorem reach_any (vg : Value) (g : G) (i : Int) (w : World) (hg : Rg w vg g) (hn : g.length ≤ 1000) (hl : ∀ l ∈ g, l.length ≤ 1000) :
    Calls Try.prog 13 #[vg, .int .i64 i] w fun e w' => ∃ v, e = .returned v ∧ w'.ownsRow w.heap.size 3 1 v (reachZ g i).length (ints (nn (reachZ g i))) ∧ Below w.heap.size w w' := by
  have HG := Lib.hid hg
  have HL := Lib.hid hl
  obtain ⟨ag, cg, rfl⟩ := hg.shape
  clear hg hl
  have hhas := has_any ag g.length cg i w
  by_cases hi : 0 ≤ i ∧ i < (g.length : Int)
  case neg =>
    have hbf : (decide (0 ≤ i) && decide (i < (g.length : Int))) = false := by
      rw [Bool.and_eq_false_iff, decide_eq_false_iff_not, decide_eq_false_iff_not]
      exact Classical.not_and_iff_not_or_not.1 hi
    rw [hbf] at hhas
    have HHAS := Lib.hid hhas
    have HZ : Hid (reachZ g i = []) := Lib.hid (by unfold reachZ; rw [if_neg hi])
    clear hhas hbf hi
    go_enter Try.func13, Try.ntmps13
    go_wp2_with fail
    (with_reducible refine HHAS.out.mono ?_); rintro e w1 ⟨rfl, rfl⟩
    go_wp2_with fail
    go_ret
    exact ⟨_, rfl, by rw [HZ.out]; exact World.ownsRow_nil _ _ _ _, Below.refl _ _⟩
  rw [decide_eq_true hi.1, decide_eq_true hi.2] at hhas
  obtain ⟨ii, rfl⟩ : ∃ ii : Nat, i = (ii : Int) := ⟨i.toNat, by omega⟩
  have hii : ii < g.length := by omega
  have HHAS := Lib.hid hhas
  have HZ : Hid (reachZ g ii = reach g ii) := Lib.hid (by unfold reachZ; rw [if_pos hi, Int.toNat_natCast])
  have hmb := mkBools g.length (by omega)
  have HW0 := Lib.hid (Wy.start g ii)
  clear hhas hi
  go_enter Try.func13, Try.ntmps13
  go_wp2_with fail
  (with_reducible refine HHAS.out.mono ?_); rintro e w0 ⟨rfl, rfl⟩
  have HS0 : Hid (Ro (w0.alloc (.cells (Array.replicate g.length (.bool false)) 4)) w0.heap.size 4 (bls (seenL g []))) := Lib.hid (by
    have h := Ro.falses (heap_alloc_new w0 (.cells (Array.replicate g.length (.bool false)) 4))
    rw [show (seenL g []) = List.replicate g.length false by unfold seenL tab; simp [List.map_const']]
    exact h)
  obtain ⟨sb, hsb⟩ : ∃ sb, sb = w0.heap.size := ⟨_, rfl⟩
  have HSB := Lib.hid hsb
  obtain ⟨w1, hw1⟩ : ∃ w1, w1 = (w0.alloc (.cells (Array.replicate g.length (.bool false)) 4)).alloc (.cells #[.int .i64 (ii : Int)] 3) := ⟨_, rfl⟩
  have HS1 : Hid (Ro w1 sb 4 (bls (seenL g []))) := Lib.hid (by rw [hw1, hsb]; exact HS0.out.kw (Kw.alloc _ _ (fun _ => False)) id)
  have HK1 : Hid (Kw w0 w1 (fun j => sb ≤ j)) := Lib.hid (by rw [hw1]; exact (Kw.alloc w0 _ (fun j => sb ≤ j)).trans (Kw.alloc _ _ (fun j => sb ≤ j)) fun _ _ h => h)
  have HT1 : Hid (w1.ownsRow (sb + 1) 3 1 (.slice (some ⟨sb + 1, 0, none⟩) 1 1) 1 (ints (nn [ii]))) := Lib.hid (by
    refine ⟨rfl, .inr ⟨sb + 1, 1, #[.int .i64 (ii : Int)], rfl, Nat.le_refl _, ?_, Nat.le_refl _, by decide, rfl, rfl⟩⟩
    rw [hw1, hsb]
    exact alloc_at _ _ _ (by simp))
  have HSZ : Hid (w1.heap.size = sb + 2) := Lib.hid (by rw [hw1, hsb]; simp)
  clear HS0
  go_upto_block 0 with fail
  (try simp only [alloc_size])
  rw [← hw1, ← hsb]
  clear hw1 hsb hmb
  go_cut [7] (fun v7 w' => ∃ (v : Value) (out : List Nat), v = v7 ∧ Hid (w'.ownsRow (sb + 1) 3 1 v out.length (ints (nn out))) ∧ Hid (Wy g ii [] out none) ∧ Hid (Kw w0 w' (fun j => sb ≤ j)))
  case first =>
    --BEGIN 1
    as_aux_lemma =>
      go_wp2_with fail
      go_loopg [6, 7] (2 * (g.length - 0) + 1) (fun n v6 v7 wr => ∃ (td out : List Nat) (vt vo : Value), vt = v6 ∧ vo = v7 ∧ Hid (2 * (g.length - out.length) + td.length = n) ∧ Hid (wr.ownsRow (sb + 1) 3 1 vt td.length (ints (nn td))) ∧ Hid (wr.ownsRow (sb + 1) 3 1 vo out.length (ints (nn out))) ∧ Hid (∀ b, vt.ownBlock = some b → vo.ownBlock ≠ some b) ∧ Hid (Ro wr sb 4 (bls (seenL g out))) ∧ Hid (Wy g ii td out none) ∧ Hid (Kw w0 wr (fun j => sb ≤ j)) ∧ Hid (sb + 2 ≤ wr.heap.size))
      case atStart => exact ⟨[ii], [], _, _, rfl, rfl, Lib.hid rfl, HT1, Lib.hid (World.ownsRow_nil _ _ _ _), Lib.hid (fun b hb e => by cases e), HS1, HW0, HK1, Lib.hid (by have := HSZ.out; omega)⟩
      case round =>
        clear HT1 HS1 HW0 HK1 HSZ
        obtain ⟨td, out, vt, vo, rfl, rfl, HM, HTD, HOU, HAP, HSE, HWY, HK, HSI⟩ := hrel
        have hol : out.length ≤ 1000 := by have := HWY.out.outLen; omega
        rcases List.eq_nil_or_concat td with rfl | ⟨t0, x, hp⟩
        · obtain ⟨at0, ct0, hvs⟩ := own_shape HTD.out
          subst hvs
          go_wp2_with fail
          go_meet
          exact ⟨_, out, rfl, HOU, HWY, HK⟩
        · rw [List.concat_eq_append] at hp
          subst hp
          obtain ⟨gt, cap, cur, hvs, hgt, hgc, hnc, hcm, hcs, htk⟩ := HTD.out.2.resolve_left (fun h0 => by simp at h0)
          subst hvs
          have hll : (t0 ++ [x]).length = t0.length + 1 := by simp
          have htl : t0.length ≤ 1001 := by have := HWY.out.len; rw [hll] at this; omega
          have c6 := own_at (j := t0.length) HTD.out (u := .int .i64 (x : Int)) (by simp [ints])
          have HTP := own_prefix HTD.out (i := t0.length) (by omega)
          rw [Nat.mul_one, show (ints (nn (t0 ++ [x]))).take t0.length = ints (nn t0) by simp [ints]] at HTP
          have HTP := Lib.hid HTP
          rw [hll] at hnc ⊢
          have hxg : x < g.length := by
            rcases HWY.out.tds x (by simp) with h | h
            · omega
            · exact HWY.out.outLt x h
          have hxx : (x : Int) < (g.length : Int) := by omega
          have HBr := Lib.hid (HK.out.below (B := w0.heap.size) (fun j hj => by have := HSB.out; omega) (Nat.le_refl _))
          obtain ⟨b1, o1, u1, rfl, c1, r1, hb1, _⟩ := HG.out.at hxg
          have c1 := (HBr.out.cell (p := ⟨b1, o1 + x, none⟩) hb1).trans c1
          obtain ⟨row, hrw⟩ : ∃ row, row = g[x] := ⟨_, rfl⟩
          have hrl : row.length ≤ 1000 := by rw [hrw]; exact HL.out _ (List.getElem_mem hxg)
          have HRW : Hid (g.getD x [] = row) := Lib.hid (by rw [hrw]; simp [hxg])
          rw [← hrw] at r1
          clear hrw hgc htk hcs hcm cur
          have HRI := Lib.hid r1
          obtain ⟨au, cu, rfl⟩ := r1.shape
          clear r1
          have hnci : (t0.length : Int) ≤ (cap : Int) := by omega
          have HWP := Lib.hid HWY.out.pop
          have HML : Hid (2 * (g.length - out.length) + (t0.length + 1) = gk) := Lib.hid (by have := HM.out; rw [hll] at this; exact this)
          have hgk : Hid (sb + 1 ≤ gt) := Lib.hid hgt
          clear hgt
          go_wp2_with fail
          go_loopg [6, 7, 39] (row.length - 0) (fun n v6 v7 v39 wr2 => ∃ (td2 out2 : List Nat) (vt vo : Value) (j : Nat), vt = v6 ∧ vo = v7 ∧ v39 = .int .i64 j ∧ Hid (j ≤ row.length ∧ row.length - j = n) ∧ Hid (2 * (g.length - out2.length) + td2.length + 1 ≤ gk) ∧ Hid (wr2.ownsRow (sb + 1) 3 1 vt td2.length (ints (nn td2))) ∧ Hid (wr2.ownsRow (sb + 1) 3 1 vo out2.length (ints (nn out2))) ∧ Hid (∀ b, vt.ownBlock = some b → vo.ownBlock ≠ some b) ∧ Hid (Ro wr2 sb 4 (bls (seenL g out2))) ∧ Hid (Wy g ii td2 out2 (some (x, j))) ∧ Hid (Kw w0 wr2 (fun j => sb ≤ j)) ∧ Hid (sb + 2 ≤ wr2.heap.size))
          case atStart => exact ⟨t0, out, _, _, 0, rfl, rfl, rfl, Lib.hid ⟨Nat.zero_le _, rfl⟩, Lib.hid (by have := HML.out; omega), HTP, HOU, HAP, HSE, HWP, HK, HSI⟩
          case round =>
            clear HTP HTD HOU HAP HSE HWP HWY HK HSI HM c6 c1 HBr
            obtain ⟨td2, out2, vt, vo, j, rfl, rfl, rfl, HJ, HM2, HTD, HOU, HAP, HSE, HWY, HK, HSI⟩ := hrel
            have hol2 : out2.length ≤ 1000 := by have := HWY.out.outLen; omega
            have htl2 : td2.length ≤ 1001 := by have := HWY.out.len; omega
            have HBr := Lib.hid (HK.out.below (B := w0.heap.size) (fun j hj => by have := HSB.out; omega) (Nat.le_refl _))
            by_cases hj : j < row.length
            · have hjj : (j : Int) < (row.length : Int) := by omega
              obtain ⟨b3, o3, rfl, c3⟩ := (HRI.out.below' HBr.out).at hj
              obtain ⟨z, hz⟩ : ∃ z, z = row[j] := ⟨_, rfl⟩
              have HZJ : Hid ((g.getD x [])[j]? = some z) := Lib.hid (by rw [HRW.out, hz]; simp [hj])
              rw [← hz] at c3
              clear hz
              have hhas := has_any (some ⟨b1, o1, none⟩) g.length cg z wr
              by_cases hz : 0 ≤ z ∧ z < (g.length : Int)
              · rw [decide_eq_true hz.1, decide_eq_true hz.2] at hhas
                have HHA := Lib.hid hhas
                obtain ⟨kk, rfl⟩ : ∃ kk : Nat, z = (kk : Int) := ⟨z.toNat, by omega⟩
                have hkk : kk < g.length := by omega
                have hki : (kk : Int) < (g.length : Int) := by omega
                clear hhas hz
                have s1 := HSE.out.cell (bls_at _ kk (by unfold seenL; rw [tab_length]; exact hkk))
                rw [seenL_get g out2 kk hkk] at s1
                by_cases hin : kk ∈ out2
                · rw [decide_eq_true hin] at s1
                  have HSK := Lib.hid (HWY.out.skip fun k hk _ => by
                    rw [HZJ.out] at hk
                    injection hk with hk
                    exact (show kk = k by omega) ▸ hin)
                  clear hin
                  go_wp2_with fail
                  (with_reducible refine HHA.out.mono ?_); rintro e w5 ⟨rfl, rfl⟩
                  go_wp2_with fail
                  go_roundg (row.length - (j + 1))
                  case measure => have := HJ.out.2; omega
                  case rel => exact ⟨td2, out2, _, _, j + 1, rfl, rfl, by simp, Lib.hid ⟨hj, rfl⟩, HM2, HTD, HOU, HAP, HSE, HSK, HK, HSI⟩
                · rw [decide_eq_false hin] at s1
                  have HNI := Lib.hid hin
                  clear hin
                  have f1 := HSE.out.free kk
                  have HWA := Lib.hid (HWY.out.add hxg HZJ.out hkk HNI.out)
                  obtain ⟨at1, ct1, hvs⟩ := own_shape HTD.out
                  subst hvs
                  obtain ⟨ao1, co1, hvs⟩ := own_shape HOU.out
                  subst hvs
                  go_wp2_with fail
                  (with_reducible refine HHA.out.mono ?_); rintro e w5 ⟨rfl, rfl⟩
                  go_upto_region 14 with fail
                  obtain ⟨W, hW⟩ : ∃ W, W = w5.setCell ⟨sb, kk, none⟩ (.bool true) := ⟨_, rfl⟩
                  have hkw : Kw w5 W (fun j => j = sb) := by rw [hW]; exact Kw.set w5 sb kk _
                  have HSW : Hid (Ro W sb 4 (bls (seenL g (out2 ++ [kk])))) := Lib.hid (by rw [hW, ← seenL_add, ← bls_set]; exact HSE.out.set kk _)
                  rw [← hW]
                  clear hW
                  have HTW := Lib.hid (hkw.row HTD.out fun b hb e => by have := (HTD.out.lt b hb).1; omega)
                  have HOW := Lib.hid (hkw.row HOU.out fun b hb e => by have := (HOU.out.lt b hb).1; omega)
                  have HKW := Lib.hid (HK.out.trans hkw fun j _ e => Nat.le_of_eq e.symm)
                  have hsW : sb + 1 ≤ W.heap.size := by have := hkw.size; have := HSI.out; omega
                  have HSIW : Hid (sb + 2 ≤ W.heap.size) := Lib.hid (by have := hkw.size; have := HSI.out; omega)
                  have hown := HTW.out
                  clear hkw HTD HOU HSE HK HSI s1 f1 c3
                  go_upto_region 15 with (first
                    | (at_builtin; refine wp_app2 tyInts rfl _ _ rfl (sb + 1) hown rfl rfl rfl rfl (by intro u hu; simp at hu; rw [hu]; rfl) (by omega) (by omega) hsW ?_; intro v6 w6 o6 d6 q6 n6; have k6 := Kw.of_grown q6; have HT6 : Hid (w6.ownsRow (sb + 1) 3 1 v6 (td2 ++ [kk]).length (ints (nn (td2 ++ [kk])))) := Lib.hid (by rw [List.length_append, show nn (td2 ++ [kk]) = nn td2 ++ [(kk : Int)] by simp, ints_snoc]; exact o6); have HO6 := Lib.hid (k6.row HOW.out fun b hb e => HAP.out b e hb); have HS6 := Lib.hid (HSW.out.kw k6 (fun e => by have := (hown.lt _ e).1; omega)); have HK6 := Lib.hid (HKW.out.trans k6 fun j _ e => by have := (hown.lt _ e).1; omega); have HA6 : Hid (∀ b, v6.ownBlock = some b → (Value.slice ao1 out2.length co1).ownBlock ≠ some b) := Lib.hid (by (intro b hb e; rcases n6 with h | ⟨g2, h, hle⟩; exact HAP.out b (h ▸ hb) e; (rw [h] at hb; injection hb with hb; have := (HOW.out.lt b e).2; omega))); have hs6 : sb + 1 ≤ w6.heap.size := (by have := k6.size; omega); have HSI6 : Hid (sb + 2 ≤ w6.heap.size) := Lib.hid (by have := k6.size; have := HSIW.out; omega); clear o6 d6 q6 n6 k6)
                    | fail)
                  have hown2 := HO6.out
                  clear hown HTW HOW HSW HKW HAP HSIW
                  go_wp2_with (first
                    | (at_builtin; refine wp_app2 tyInts rfl _ _ rfl (sb + 1) hown2 rfl rfl rfl rfl (by intro u hu; simp at hu; rw [hu]; rfl) (by omega) (by omega) hs6 ?_; intro v7 w7 o7 d7 q7 n7; have k7 := Kw.of_grown q7; have HO7 : Hid (w7.ownsRow (sb + 1) 3 1 v7 (out2 ++ [kk]).length (ints (nn (out2 ++ [kk])))) := Lib.hid (by rw [List.length_append, show nn (out2 ++ [kk]) = nn out2 ++ [(kk : Int)] by simp, ints_snoc]; exact o7); have HT7 := Lib.hid (k7.row HT6.out fun b hb e => HA6.out b hb e); have HS7 := Lib.hid (HS6.out.kw k7 (fun e => by have := (hown2.lt _ e).1; omega)); have HK7 := Lib.hid (HK6.out.trans k7 fun j _ e => by have := (hown2.lt _ e).1; omega); have HA7 : Hid (∀ b, v6.ownBlock = some b → v7.ownBlock ≠ some b) := Lib.hid (by (intro b hb e; rcases n7 with h | ⟨g2, h, hle⟩; exact HA6.out b hb (h ▸ e); (rw [h] at e; injection e with e; have := (HT6.out.lt b hb).2; omega))); have HSI7 : Hid (sb + 2 ≤ w7.heap.size) := Lib.hid (by have := k7.size; have := HSI6.out; omega); clear o7 d7 q7 n7 k7)
                    | fail)
                  go_roundg (row.length - (j + 1))
                  case measure => have := HJ.out.2; omega
                  case rel => exact ⟨td2 ++ [kk], out2 ++ [kk], _, _, j + 1, rfl, rfl, by simp, Lib.hid ⟨hj, rfl⟩, Lib.hid (by have := HM2.out; have := HWA.out.outLen; simp at *; omega), HT7, HO7, HA7, HS7, HWA, HK7, HSI7⟩
              · have hbf : (decide (0 ≤ z) && decide (z < (g.length : Int))) = false := by
                  rw [Bool.and_eq_false_iff, decide_eq_false_iff_not, decide_eq_false_iff_not]
                  exact Classical.not_and_iff_not_or_not.1 hz
                rw [hbf] at hhas
                have HHA := Lib.hid hhas
                have HNO := Lib.hid hz
                clear hhas hz hbf
                go_wp2_with fail
                (with_reducible refine HHA.out.mono ?_); rintro e w5 ⟨rfl, rfl⟩
                go_wp2_with fail
                go_roundg (row.length - (j + 1))
                case measure => have := HJ.out.2; omega
                case rel => exact ⟨td2, out2, _, _, j + 1, rfl, rfl, by simp, Lib.hid ⟨hj, rfl⟩, HM2, HTD, HOU, HAP, HSE, Lib.hid (HWY.out.skip fun k hk hkn => absurd (show 0 ≤ z ∧ z < (g.length : Int) by rw [HZJ.out] at hk; injection hk with hk; constructor <;> omega) HNO.out), HK, HSI⟩
            · obtain rfl : j = row.length := by have := HJ.out.1; omega
              go_wp2_with fail
              go_roundg (2 * (g.length - out2.length) + td2.length)
              case measure => have := HM2.out; omega
              case rel => exact ⟨td2, out2, _, _, rfl, rfl, Lib.hid rfl, HTD, HOU, HAP, HSE, Lib.hid (HWY.out.next (by rw [HRW.out]; exact Nat.le_refl _)), HK, HSI⟩
    --END 1
  case rest =>
    obtain ⟨v, out, rfl, HO, HWY, HK⟩ := hcut
    rename World => w9
    have HSR := Lib.hid (sorted_reach HWY.out)
    have hol : out.length ≤ 1000 := by have := HWY.out.outLen; omega
    have HBr := Lib.hid (HK.out.below (B := w0.heap.size) (fun j hj => by have := HSB.out; omega) (Nat.le_refl _))
    obtain ⟨L, hL⟩ : ∃ L, L = nn out := ⟨_, rfl⟩
    have howr := HO.out
    have hLl : L.length = out.length := by rw [hL]; simp
    rw [← hLl, ← hL] at howr
    have HSR2 : Hid (L.mergeSort (fun x y => decide (x ≤ y)) = nn (reach g ii)) := Lib.hid (by rw [hL]; exact HSR.out)
    have hLb : L.length ≤ 1000 := by omega
    clear hL HSR hLl hol
    rcases howr.2 with ⟨hnil, h0⟩ | ⟨gb, cap, cur, hv, hgB, hgb, h1, h2, h3, h4⟩
    · have hL0 : L = [] := List.eq_nil_of_length_eq_zero h0
      subst hL0
      subst hnil
      go_wp2_with fail
      (with_reducible refine (Try.slices_Sort_int_none _ _ _).mono ?_); rintro e w5 ⟨rfl, rfl⟩
      go_wp2_with fail
      go_ret
      refine ⟨.slice none 0 0, rfl, ?_, HBr.out⟩
      have e9 := HSR2.out
      rw [show (([] : List Int).mergeSort fun x y => decide (x ≤ y)) = [] by simp] at e9
      rw [HZ.out, show reach g ii = [] from List.map_eq_nil_iff.1 e9.symm]
      exact World.ownsRow_nil _ _ _ _
    · subst hv
      have hh := holds_of_blockI (ss := L) hgb (by rw [Nat.mul_one] at h4; exact h4)
      have hgl := row_lt hgb
      have HGB := Lib.hid hgb
      clear hgb howr
      go_wp2_with fail
      (with_reducible refine (Try.slices_Sort_int gb 0 cap L _ hh hgl (by omega)).mono ?_); rintro e w5 ⟨rfl, n5, os5, rfl⟩
      have hso := ownsRow_sortedI (n := n5) (os := os5) (ss := L) (ts := L.mergeSort fun x y => decide (x ≤ y)) (base := w0.heap.size) (by simp) (by have := HSB.out; omega) HGB.out h1 h2 (by omega)
      have hgr := grownBy_sortedI (w := w9) (g := gb) (n := n5) (os := os5) (L.mergeSort fun x y => decide (x ≤ y)).toArray
      go_wp2_with fail
      go_ret
      refine ⟨_, rfl, ?_, HBr.out.grown hgr HBr.out.size (fun j hj => by cases hj; have := HSB.out; omega)⟩
      have hlen : L.length = (reach g ii).length := by
        have := congrArg List.length HSR2.out
        simpa using this
      have e9 : (L.mergeSort fun x y => decide (x ≤ y)).map (Value.int .i64) = ints (nn (reach g ii)) := by rw [HSR2.out]; rfl
      rw [e9] at hso
      rw [HZ.out, ← hlen]
      exact hso
end Go.Proofs.Ytemdhbeegheefaa
