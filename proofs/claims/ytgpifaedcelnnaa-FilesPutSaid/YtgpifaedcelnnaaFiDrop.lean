
/- The library's Delete of one file; Drop. No condition. -/
import Derived.Test.YtgpifaedcelnnaaFiFind
import Derived.Deep.RegionLaw
import Derived.Lib.SliceRun
namespace Go.Proofs.Ytgpifaedcelnnaa
open Go.RowKit

theorem own_at {w : World} {base e n g c k : Nat} {xs : List Value} (h : w.ownsRow base e k (.slice (some ⟨g, 0, none⟩) n c) n xs) {j : Nat} {u : Value} (hj : xs[j]? = some u) : w.cell? ⟨g, j, none⟩ = some u := by
  have := h.cells (g := g) rfl j u hj
  rwa [addr_add, Nat.zero_add] at this

abbrev zm : List Value := [.string (S []), .string (S [])]
theorem run_clear_file (w : World) (ty : TypeId) (g o c : Nat) (cur : Array Value) (hg : w.heap[g]? = some (.cells cur 25 (0, 0))) (hl : o + 2 ≤ cur.size) :
    (Builtin.clear_ #[22] ty #[.slice (some ⟨g, o, none⟩) 1 c]).run Try.prog w = .ok (.tuple #[]) (w.setCells g o zm) := by
  have hst := run_storeCells_cells (P := Try.prog) g o zm 0 w (fun j hj => by rw [row_cell hg]; simp at hj ⊢; omega) (fun j hj => row_free hg _) (by intro u hu; simp at hu; rcases hu with rfl | rfl <;> rfl)
  have hz : (Builtin.zeroCells #[Value.string (S []), .string (S [])] 1).toList = zm := by
    apply List.ext_getElem
    · simp [Builtin.zeroCells]
    · intro i h1 h2
      simp at h2
      rcases (by omega : i = 0 ∨ i = 1) with rfl | rfl <;> simp [Builtin.zeroCells]
  simp only [Nat.add_zero] at hst
  simp [Builtin.clear_, run_underlying Try.underlying22, Try.zeroValue25, Value.cells, hz, hst]

set_option maxRecDepth 20000 in
set_option maxHeartbeats 4000000 in
/-- 'slices.Delete' of one file. -/
theorem delete_one (B g n cap i : Nat) (xs : List Value) (w : World) (hown : w.ownsRow B 25 2 (.slice (some ⟨g, 0, none⟩) n cap) n xs) (hi : i < n) (hn : n ≤ 1000000) (h1 : ∀ u ∈ xs, u.oneCell' = true) :
    Calls Try.prog 33 #[.slice (some ⟨g, 0, none⟩) n cap, .int .i64 (i : Int), .int .i64 ((i : Int) + 1)] w fun e w' => e = .returned (.slice (some ⟨g, 0, none⟩) (n - 1) cap) ∧ w'.ownsRow B 25 2 (.slice (some ⟨g, 0, none⟩) (n - 1) cap) (n - 1) (xs.take (i * 2) ++ xs.drop ((i + 1) * 2)) ∧ w.grownBy w' (some g) := by
  have hsz := own_size hown
  obtain ⟨i0, z0, hi0, hz0, hz1, hz2, hz3⟩ := tyF.hi
  obtain ⟨m, rfl⟩ : ∃ m, n = i + 1 + m := ⟨n - (i + 1), by omega⟩
  obtain ⟨news, hnews⟩ : ∃ news, news = xs.drop ((i + 1) * 2) := ⟨_, rfl⟩
  have hlen : news.length = m * 2 := by rw [hnews, List.length_drop, hown.1]; omega
  obtain ⟨A, hA, hsrc⟩ : ∃ A : Addr, (if cap = i + 1 then some (⟨g, 0, none⟩ : Addr) else some ⟨g, (i + 1) * 2, none⟩) = some A ∧ Hid (∀ t u, news[t]? = some u → w.drew.cell? (A.add t) = some u) := by
    by_cases h : cap = i + 1
    · refine ⟨⟨g, 0, none⟩, by simp [h], fun t u hu => ?_⟩
      have h0 : news = [] := List.eq_nil_of_length_eq_zero (by rw [hlen]; omega)
      rw [h0] at hu; simp at hu
    · refine ⟨⟨g, (i + 1) * 2, none⟩, by simp [h], fun t u hu => ?_⟩
      rw [Addr.add_lit]
      rw [hnews, List.getElem?_drop] at hu
      exact own_at hown hu
  have s1 := Lib.hid hlen
  have s2 : Hid (∀ u ∈ news, u.oneCell' = true) := Lib.hid (fun u hu => h1 u (by rw [hnews] at hu; exact List.mem_of_mem_drop hu))
  obtain ⟨cur, hrow, hcs⟩ := own_row hown
  have s3 : Hid (∀ t, t < news.length → (w.drew.cell? ⟨g, 0 + i * 2 + t, none⟩).isSome = true ∧ w.drew.frozen? ⟨g, 0 + i * 2 + t, none⟩ = false) := Lib.hid (fun t ht => by
    have hc2 : (i + 1 + m) * 2 ≤ cap * 2 := Nat.mul_le_mul_right _ hsz.1
    refine ⟨?_, row_free (W := w.drew) hrow _⟩
    rw [row_cell (W := w.drew) hrow]; simp; omega)
  have hpre := own_prefix hown (i := i) (by omega)
  have hl := own_lay Try.prog (w := w.drew) (m := m) hpre hlen (by omega) s2.out
  have hst := own_spoil Try.prog (o := (i + m) * 2) (news := zm) hl.1 (Nat.le_refl _) (by simp; omega) (by intro u hu; simp at hu; rcases hu with rfl | rfl <;> rfl)
  obtain ⟨cur2, hrow2, hcs2⟩ := own_row hl.1
  have hcl := fun ty c => run_clear_file (w.drew.setCells g (i * 2) news) ty g ((i + m) * 2) c cur2 hrow2 (by omega)
  obtain ⟨W1, hW1⟩ : ∃ W1, W1 = w.drew.setCells g (i * 2) news := ⟨_, rfl⟩
  rw [← hW1] at hcl hst
  have HST := Lib.hid hst
  have HL := Lib.hid hl.2
  have HW : Hid (W1 = w.drew.setCells g (0 + i * 2) news) := Lib.hid (by rw [Nat.zero_add]; exact hW1)
  have HN := Lib.hid hnews
  clear hW1 hnews hlen hown hrow hpre hl hst hrow2 h1
  have hic : i ≤ cap := by omega
  have hjc : i + 1 ≤ cap := by omega
  have hsub : i + 1 + m - (i + m) = 1 := by omega
  have hx1 : (0 : Int) ≤ (i : Int) + 1 := by omega
  have hx2 : (i : Int) + 1 ≤ (i : Int) + 1 + (m : Int) := by omega
  go_enter Try.func33, Try.ntmps33
  go_wp2_with fail
  go_region_law (refine step_append_room rfl (.tmp 22) (.tmp 25) 22 rfl 25 i0 2 Try.underlying22 hi0 hz1 g 0 i cap (by simp [Act.eval, Act.put]) A m (cap - (i + 1)) news (by simp [Act.eval, Act.put]) s1.out hsrc.out s2.out (by omega) s3.out ?_; rw [← HW.out])
  go_wp2_with fail
  go_ret
  refine ⟨by rw [show i + 1 + m - 1 = i + m by omega]; rfl, by rw [show i + 1 + m - 1 = i + m by omega, ← HN.out]; exact HST.out.1, ?_⟩
  have h1 := HST.out.2
  have h2 : W1 = w.drew.setCells g (i * 2) news := by rw [HW.out, Nat.zero_add]
  have h3 : w.grownBy W1 (some g) := by rw [h2]; exact ⟨HL.out.os, HL.out.tape, HL.out.output, HL.out.size, HL.out.block⟩
  exact grownBy_trans h3 h1

theorem dropF_none {ms : List Fl} {t : List UInt8} (h : Fi.has ms t = false) : Fi.drop ms t = ms := by
  unfold Fi.has Fi.names at h
  unfold Fi.drop
  rw [List.filter_eq_self]
  intro m hm
  have : m.1 ≠ t := by
    rintro e
    have : t ∈ ms.map Prod.fst := List.mem_map.2 ⟨m, hm, e⟩
    simp [this] at h
  simpa [bne] using this
theorem dropF_at {ms : List Fl} {t : List UInt8} (hs : Fi.Ord ms) {i : Nat} (hi : i < ms.length) (h : ms[i].1 = t) : Fi.drop ms t = ms.take i ++ ms.drop (i + 1) := by
  have e : ms = ms.take i ++ ms[i] :: ms.drop (i + 1) := by rw [← List.drop_eq_getElem_cons hi, List.take_append_drop]
  unfold Fi.Ord Fi.names at hs
  have hp := List.pairwise_iff_getElem.1 hs
  unfold Fi.drop
  conv => lhs; rw [e]
  rw [List.filter_append, List.filter_cons]
  have h0 : (ms[i].1 != t) = false := by simp [bne, h]
  rw [h0]
  simp only [Bool.false_eq_true, if_false]
  congr 1
  · rw [List.filter_eq_self]
    intro m hm
    obtain ⟨j, hj, rfl⟩ := List.getElem_of_mem hm
    rw [List.length_take] at hj
    have := hp j i (by simp; omega) (by simp; omega) (by omega)
    simp only [List.getElem_map, List.getElem_take] at this ⊢
    rw [h] at this
    have hne : ms[j].1 ≠ t := by rintro e; rw [e, cb_self] at this; omega
    simpa [bne] using hne
  · rw [List.filter_eq_self]
    intro m hm
    obtain ⟨j, hj, rfl⟩ := List.getElem_of_mem hm
    rw [List.length_drop] at hj
    have := hp i (i + 1 + j) (by simp; omega) (by simp; omega) (by omega)
    simp only [List.getElem_map, List.getElem_drop] at this ⊢
    rw [h] at this
    have hne : ms[i + 1 + j].1 ≠ t := by rintro e; rw [e, cb_self] at this; omega
    simpa [bne] using hne

theorem fcs_cut (l : List Fl) (r : Nat) : (fcs l).take (r * 2) ++ (fcs l).drop ((r + 1) * 2) = fcs (l.take r ++ l.drop (r + 1)) := by
  rw [(fcs_take l r).1, (fcs_take l (r + 1)).2, fcs_append]

set_option maxRecDepth 20000 in
set_option maxHeartbeats 1600000 in
/-- 'Drop'. -/
theorem fdrop_any (v : Value) (l : List Fl) (t : List UInt8) (w : World) (hl : Rf w v l) (hlen : l.length ≤ 1000000) (hs : Fi.Ord l) :
    Calls Try.prog 14 #[v, .string (S t)] w fun e w' => ∃ v', e = .returned (.tuple #[v', .bool (Fi.has l t)]) ∧ w'.ownsRow w.heap.size 25 2 v' (Fi.drop l t).length (fcs (Fi.drop l t)) ∧ Below w.heap.size w w' := by
  have HR := Lib.hid hl
  obtain ⟨a0, c0, rfl⟩ := hl.shape
  clear hl
  go_enter Try.func14, Try.ntmps14
  go_wp2_with fail
  (with_reducible refine (clone_any _ l w HR.out (by omega)).mono ?_); rintro e w1 ⟨v1, rfl, hown1, b1⟩
  have hs1 := b1.size
  have HP := Lib.hid (place_any v1 l t w1 (rf_own hown1) hlen hs)
  have hat := Fi.has_at hs t
  rw [lb_is hs, show (Fi.names l).contains t = Fi.has l t from rfl] at HP
  obtain ⟨r, hr⟩ : ∃ r, r = lb (Fi.names l) t := ⟨_, rfl⟩
  rw [← hr] at HP hat
  cases hq : Fi.has l t
  · have HD := Lib.hid (show Fi.drop l t = l from dropF_none hq)
    rw [hq] at HP
    have HQ := Lib.hid hq
    clear hq hr hs hat
    obtain ⟨a1, c1, rfl⟩ := own_shape hown1
    go_wp2_with fail
    (with_reducible refine HP.out.mono ?_); rintro e w2 ⟨rfl, b2⟩
    go_wp2_with fail
    go_ret2
    exact ⟨_, by rw [HQ.out]; rfl, by rw [HD.out]; exact own_below hown1 (own_under hown1) b2, b1.trans (b2.mono hs1)⟩
  · rw [hq] at HP hat
    obtain ⟨hrl, hn⟩ := of_decide_eq_true hat.symm
    have HD := Lib.hid (show Fi.drop l t = l.take r ++ l.drop (r + 1) from dropF_at hs hrl hn)
    have HQ := Lib.hid hq
    clear hq hr hs hat
    obtain ⟨g, cap, rfl⟩ := own_form9 hown1 (by omega)
    have hri : (r : Int) < (l.length : Int) := by omega
    go_wp2_with fail
    (with_reducible refine HP.out.mono ?_); rintro e w2 ⟨rfl, b2⟩
    have hown2 := own_below hown1 (own_under hown1) b2
    have hs2 := b2.size
    go_wp2_with fail
    (with_reducible refine (delete_one w.heap.size g l.length cap r (fcs l) w2 hown2 hrl hlen fcs_one).mono ?_); rintro e w3 ⟨rfl, hd, hgd⟩
    rw [fcs_cut l r] at hd
    have hll : (l.take r ++ l.drop (r + 1)).length = l.length - 1 := by rw [List.length_append, List.length_take, List.length_drop]; omega
    go_wp2_with fail
    go_ret2
    exact ⟨_, by rw [HQ.out]; rfl, by rw [HD.out, hll]; exact hd, (b1.trans (b2.mono hs1)).trans ((Below.refl w.heap.size w2).grown hgd (by omega) (fun j hj => by cases hj; exact (hown1.lt g rfl).1))⟩

end Go.Proofs.Ytgpifaedcelnnaa
