
/- The macro layer: Get, Drop, the library's Delete of one macro. No condition. -/
import Derived.Test.YtkpdhpbnbpjceaaMacName
import Derived.Test.YtkpdhpbnbpjceaaRow
import Derived.Deep.RegionLaw
import Derived.Lib.SliceRun
namespace Go.Proofs.Ytkpdhpbnbpjceaa
open Go.RowKit

abbrev zm : List Value := [.string (S []), .int .i64 0, .slice none 0 0]
theorem run_clear_mac (w : World) (ty : TypeId) (g o c : Nat) (cur : Array Value) (hg : w.heap[g]? = some (.cells cur 55 (0, 0))) (hl : o + 3 ≤ cur.size) :
    (Builtin.clear_ #[51] ty #[.slice (some ⟨g, o, none⟩) 1 c]).run Try.prog w = .ok (.tuple #[]) (w.setCells g o zm) := by
  have hst := run_storeCells_cells (P := Try.prog) g o zm 0 w (fun j hj => by rw [row_cell hg]; simp at hj ⊢; omega) (fun j hj => row_free hg _) (by intro u hu; simp at hu; rcases hu with rfl | rfl | rfl <;> rfl)
  have hz : (Builtin.zeroCells #[Value.string (S []), .int .i64 0, .slice none 0 0] 1).toList = zm := by
    apply List.ext_getElem
    · simp [Builtin.zeroCells]
    · intro i h1 h2
      simp at h2
      rcases (by omega : i = 0 ∨ i = 1 ∨ i = 2) with rfl | rfl | rfl <;> simp [Builtin.zeroCells]
  simp only [Nat.add_zero] at hst
  simp [Builtin.clear_, run_underlying Try.underlying51, Try.zeroValue55, Value.cells, hz, hst]

set_option maxRecDepth 20000 in
set_option maxHeartbeats 4000000 in
/-- 'slices.Delete' of one macro. -/
theorem delete_one (B g n cap i : Nat) (xs : List Value) (w : World) (hown : w.ownsRow B 55 3 (.slice (some ⟨g, 0, none⟩) n cap) n xs) (hi : i < n) (hn : n ≤ 1000000) (h1 : ∀ u ∈ xs, u.oneCell' = true) :
    Calls Try.prog 44 #[.slice (some ⟨g, 0, none⟩) n cap, .int .i64 (i : Int), .int .i64 ((i : Int) + 1)] w fun e w' => e = .returned (.slice (some ⟨g, 0, none⟩) (n - 1) cap) ∧ w'.ownsRow B 55 3 (.slice (some ⟨g, 0, none⟩) (n - 1) cap) (n - 1) (xs.take (i * 3) ++ xs.drop ((i + 1) * 3)) ∧ w.grownBy w' (some g) := by
  have hsz := own_size hown
  obtain ⟨i0, z0, hi0, hz0, hz1, hz2, hz3⟩ := tyMac.hi
  obtain ⟨m, rfl⟩ : ∃ m, n = i + 1 + m := ⟨n - (i + 1), by omega⟩
  obtain ⟨news, hnews⟩ : ∃ news, news = xs.drop ((i + 1) * 3) := ⟨_, rfl⟩
  have hlen : news.length = m * 3 := by rw [hnews, List.length_drop, hown.1]; omega
  obtain ⟨A, hA, hsrc⟩ : ∃ A : Addr, (if cap = i + 1 then some (⟨g, 0, none⟩ : Addr) else some ⟨g, (i + 1) * 3, none⟩) = some A ∧ Hid (∀ t u, news[t]? = some u → w.drew.cell? (A.add t) = some u) := by
    by_cases h : cap = i + 1
    · refine ⟨⟨g, 0, none⟩, by simp [h], fun t u hu => ?_⟩
      have h0 : news = [] := List.eq_nil_of_length_eq_zero (by rw [hlen]; omega)
      rw [h0] at hu; simp at hu
    · refine ⟨⟨g, (i + 1) * 3, none⟩, by simp [h], fun t u hu => ?_⟩
      rw [Addr.add_lit]
      rw [hnews, List.getElem?_drop] at hu
      exact own_at hown hu
  have s1 := Lib.hid hlen
  have s2 : Hid (∀ u ∈ news, u.oneCell' = true) := Lib.hid (fun u hu => h1 u (by rw [hnews] at hu; exact List.mem_of_mem_drop hu))
  obtain ⟨cur, hrow, hcs⟩ := own_row hown
  have s3 : Hid (∀ t, t < news.length → (w.drew.cell? ⟨g, 0 + i * 3 + t, none⟩).isSome = true ∧ w.drew.frozen? ⟨g, 0 + i * 3 + t, none⟩ = false) := Lib.hid (fun t ht => by
    have hc2 : (i + 1 + m) * 3 ≤ cap * 3 := Nat.mul_le_mul_right _ hsz.1
    refine ⟨?_, row_free (W := w.drew) hrow _⟩
    rw [row_cell (W := w.drew) hrow]; simp; omega)
  have hpre := own_prefix hown (i := i) (by omega)
  have hl := own_lay Try.prog (w := w.drew) (m := m) hpre hlen (by omega) s2.out
  have hst := own_spoil Try.prog (o := (i + m) * 3) (news := zm) hl.1 (Nat.le_refl _) (by simp; omega) (by intro u hu; simp at hu; rcases hu with rfl | rfl | rfl <;> rfl)
  obtain ⟨cur2, hrow2, hcs2⟩ := own_row hl.1
  have hcl := fun ty c => run_clear_mac (w.drew.setCells g (i * 3) news) ty g ((i + m) * 3) c cur2 hrow2 (by omega)
  obtain ⟨W1, hW1⟩ : ∃ W1, W1 = w.drew.setCells g (i * 3) news := ⟨_, rfl⟩
  rw [← hW1] at hcl hst
  have HST := Lib.hid hst
  have HL := Lib.hid hl.2
  have HW : Hid (W1 = w.drew.setCells g (0 + i * 3) news) := Lib.hid (by rw [Nat.zero_add]; exact hW1)
  have HN := Lib.hid hnews
  clear hW1 hnews hlen hown hrow hpre hl hst hrow2 h1
  have hic : i ≤ cap := by omega
  have hjc : i + 1 ≤ cap := by omega
  have hsub : i + 1 + m - (i + m) = 1 := by omega
  have hx1 : (0 : Int) ≤ (i : Int) + 1 := by omega
  have hx2 : (i : Int) + 1 ≤ (i : Int) + 1 + (m : Int) := by omega
  go_enter Try.func44, Try.ntmps44
  go_wp2_with fail
  go_region_law (refine step_append_room rfl (.tmp 22) (.tmp 25) 51 rfl 55 i0 3 Try.underlying51 hi0 hz1 g 0 i cap (by simp [Act.eval, Act.put]) A m (cap - (i + 1)) news (by simp [Act.eval, Act.put]) s1.out hsrc.out s2.out (by omega) s3.out ?_; rw [← HW.out])
  go_wp2_with fail
  go_ret
  refine ⟨by rw [show i + 1 + m - 1 = i + m by omega]; rfl, by rw [show i + 1 + m - 1 = i + m by omega, ← HN.out]; exact HST.out.1, ?_⟩
  have h1 := HST.out.2
  have h2 : W1 = w.drew.setCells g (i * 3) news := by rw [HW.out, Nat.zero_add]
  have h3 : w.grownBy W1 (some g) := by rw [h2]; exact ⟨HL.out.os, HL.out.tape, HL.out.output, HL.out.size, HL.out.block⟩
  exact grownBy_trans h3 h1

/-! ### the pure side -/
/-- Without a name. -/
def dropM (ms : List Mac) (t : List UInt8) : List Mac := ms.filter fun m => m.1 != t
theorem dropM_none {ms : List Mac} {t : List UInt8} (h : (ms.map Prod.fst).contains t = false) : dropM ms t = ms := by
  unfold dropM
  rw [List.filter_eq_self]
  intro m hm
  have : m.1 ≠ t := by
    rintro e
    have : t ∈ ms.map Prod.fst := List.mem_map.2 ⟨m, hm, e⟩
    simp [this] at h
  simpa [bne] using this
theorem dropM_at {ms : List Mac} {t : List UInt8} (hs : Sorted (ms.map Prod.fst)) {i : Nat} (hi : i < ms.length) (h : ms[i].1 = t) : dropM ms t = ms.take i ++ ms.drop (i + 1) := by
  have e : ms = ms.take i ++ ms[i] :: ms.drop (i + 1) := by rw [← List.drop_eq_getElem_cons hi, List.take_append_drop]
  have hp := List.pairwise_iff_getElem.1 hs
  unfold dropM
  conv => lhs; rw [e]
  rw [List.filter_append, List.filter_cons]
  have h0 : (ms[i].1 != t) = false := by simp [bne, h]
  rw [h0]
  simp only [Bool.false_eq_true, if_false]
  congr 1
  · rw [List.filter_eq_self]
    intro m hm
    obtain ⟨j, hj, rfl⟩ := List.getElem_of_mem hm
    rw [List.length_take] at hj
    have := hp j i (by simp; omega) (by simp; omega) (by omega)
    simp only [List.getElem_map, List.getElem_take] at this ⊢
    rw [h] at this
    have hne : ms[j].1 ≠ t := by rintro e; rw [e, cb_self] at this; omega
    simpa [bne] using hne
  · rw [List.filter_eq_self]
    intro m hm
    obtain ⟨j, hj, rfl⟩ := List.getElem_of_mem hm
    rw [List.length_drop] at hj
    have := hp i (i + 1 + j) (by simp; omega) (by simp; omega) (by omega)
    simp only [List.getElem_map, List.getElem_drop] at this ⊢
    rw [h] at this
    have hne : ms[i + 1 + j].1 ≠ t := by rintro e; rw [e, cb_self] at this; omega
    simpa [bne] using hne

/-- v reads as these macros. -/
def RdM (w : World) (v : Value) (ps : List (Mac × Value)) : Prop := Rd w 3 v ps.length (mcs ps) ∧ ∀ p ∈ ps, Rt w p.2 p.1.2.2 ∧ p.1.2.2.length ≤ 1000000
theorem RdM.below' {w w' : World} {v : Value} {ps : List (Mac × Value)} (h : RdM w v ps) (hb : Below w.heap.size w w') : RdM w' v ps := ⟨h.1.below' hb, fun p hp => ⟨(h.2 p hp).1.below' hb, (h.2 p hp).2⟩⟩
theorem RdM.rd {w : World} {v : Value} {ps : List (Mac × Value)} (h : RdM w v ps) : Rd w 3 v ps.length (mcs ps) := h.1
theorem OwnM.row {w : World} {B : Nat} {v : Value} {ps : List (Mac × Value)} (h : OwnM w B v ps) : w.ownsRow B 55 3 v ps.length (mcs ps) := h.1
theorem OwnM.bod {w : World} {B : Nat} {v : Value} {ps : List (Mac × Value)} (h : OwnM w B v ps) : Bod w v ps := h.2
theorem RdM.one {w : World} {v : Value} {ps : List (Mac × Value)} (h : RdM w v ps) : ∀ u ∈ mcs ps, u.oneCell' = true := by
  intro u hu
  simp only [mcs, List.mem_flatMap, mc, List.mem_cons, List.not_mem_nil, or_false] at hu
  obtain ⟨p, hp, rfl | rfl | rfl⟩ := hu
  · rfl
  · rfl
  · obtain ⟨a, c, e⟩ := (h.2 p hp).1.shape
    rw [e]; rfl
theorem OwnM.rdM {w : World} {B : Nat} {v : Value} {ps : List (Mac × Value)} (h : OwnM w B v ps) : RdM w v ps := ⟨own_rd h.1, fun p hp => ⟨(h.2 p hp).1, (h.2 p hp).2.1⟩⟩
/-- A row that has been made anew over the old bodies. -/
theorem RdM.cloned {w w' : World} {v v' : Value} {ps : List (Mac × Value)} (h : RdM w v ps) (hb : Below w.heap.size w w') (ho : w'.ownsRow w.heap.size 55 3 v' ps.length (mcs ps)) : OwnM w' w.heap.size v' ps := by
  refine ⟨ho, fun p hp => ⟨(h.2 p hp).1.below' hb, (h.2 p hp).2, fun h0 b hb' => ?_⟩⟩
  have hu := Rd.under (h.2 p hp).1 h0 b hb'
  exact ⟨Nat.lt_of_lt_of_le hu hb.size, fun e => by have := (ho.lt b e).1; omega⟩
theorem names_map (ps : List (Mac × Value)) : (ps.map fun p => p.1.1) = (ps.map Prod.fst).map Prod.fst := by simp

set_option maxRecDepth 20000 in
set_option maxHeartbeats 1600000 in
/-- 'Drop'. -/
theorem drop_any (v : Value) (ps : List (Mac × Value)) (t : List UInt8) (w : World) (hl : RdM w v ps) (hlen : ps.length ≤ 1000000) (hs : Sorted (ps.map fun p => p.1.1)) :
    Calls Try.prog 25 #[v, .string (S t)] w fun e w' => ∃ v' qs, e = .returned v' ∧ qs.map Prod.fst = dropM (ps.map Prod.fst) t ∧ OwnM w' w.heap.size v' qs ∧ Below w.heap.size w w' := by
  have HR := Lib.hid hl
  obtain ⟨a0, c0, rfl⟩ := hl.1.shape
  clear hl
  go_enter Try.func25, Try.ntmps25
  go_wp2_with fail
  (with_reducible refine (clone_mac _ ps w HR.out.rd (by omega) HR.out.one).mono ?_); rintro e w1 ⟨v1, rfl, hown1, b1⟩
  have hO := HR.out.cloned b1 hown1
  have hs1 := b1.size
  have HF := Lib.hid (find_any v1 ps t w1 (own_rd hown1) hlen hs)
  cases hq : ((ps.map fun p => p.1.1)[lb (ps.map fun p => p.1.1) t]? == some t)
  · have HD := Lib.hid (show dropM (ps.map Prod.fst) t = ps.map Prod.fst from dropM_none (by rw [← names_map, ← lb_is hs]; exact hq))
    rw [hq] at HF
    obtain ⟨r, hr⟩ : ∃ r, r = lb (ps.map fun p => p.1.1) t := ⟨_, rfl⟩
    rw [← hr] at HF
    clear hq hr hs
    go_wp2_with fail
    (with_reducible refine HF.out.mono ?_); rintro e w2 ⟨rfl, b2⟩
    go_wp2_with fail
    (with_reducible refine (own_any w.heap.size v1 ps w2 (hO.below b2) hlen (by have := b2.size; omega)).mono ?_); rintro e w3 ⟨v3, qs, rfl, hm, h3, b3⟩
    obtain ⟨a3, c3, rfl⟩ := own_shape h3.1
    go_wp2_with fail
    go_ret
    exact ⟨_, qs, rfl, by rw [HD.out]; exact hm, h3, (b1.trans (b2.mono hs1)).trans b3⟩
  · obtain ⟨r, hr⟩ : ∃ r, r = lb (ps.map fun p => p.1.1) t := ⟨_, rfl⟩
    rw [← hr] at HF hq
    have hq2 : (ps.map fun p => p.1.1)[r]? = some t := by simpa using hq
    have hrl : r < ps.length := by have := (List.getElem?_eq_some_iff.1 hq2).1; simpa using this
    have HD := Lib.hid (show dropM (ps.map Prod.fst) t = (ps.take r ++ ps.drop (r + 1)).map Prod.fst by
      have e1 : (ps.map Prod.fst)[r]'(by simpa using hrl) = ps[r].1 := by simp
      rw [dropM_at (by rw [← names_map]; exact hs) (i := r) (by simpa using hrl) (by
        have := (List.getElem?_eq_some_iff.1 hq2).2
        simpa using this)]
      simp)
    rw [hq] at HF
    clear hq hr hs hq2
    rcases hown1.2 with ⟨_, h0⟩ | ⟨g, cap, cur, hv, hgB, hgr, _⟩
    · omega
    · subst hv
      go_wp2_with fail
      (with_reducible refine HF.out.mono ?_); rintro e w2 ⟨rfl, b2⟩
      have hO2 := hO.below b2
      have hs2 := b2.size
      go_wp2_with fail
      (with_reducible refine (delete_one w.heap.size g ps.length cap r (mcs ps) w2 hO2.row hrl hlen HR.out.one).mono ?_); rintro e w3 ⟨rfl, hd, hgd⟩
      have hmc : (mcs ps).take (r * 3) ++ (mcs ps).drop ((r + 1) * 3) = mcs (ps.take r ++ ps.drop (r + 1)) := by
        have e : mcs ps = mcs (ps.take r) ++ (mc ps[r] ++ mcs (ps.drop (r + 1))) := by
          conv => lhs; rw [← List.take_append_drop r ps, mcs_append, List.drop_eq_getElem_cons hrl]
          simp only [mcs, List.flatMap_cons]
        have l1 : (mcs (ps.take r)).length = r * 3 := by rw [mcs_length, List.length_take]; omega
        rw [mcs_append]
        conv => lhs; rw [e]
        rw [List.take_append_of_le_length (by omega), List.take_of_length_le (by omega), ← List.append_assoc]
        congr 1
        rw [List.drop_append, List.drop_eq_nil_of_le (by simp [l1, mc]; omega)]
        have l2 : (mcs (ps.take r) ++ mc ps[r]).length = r * 3 + 3 := by rw [List.length_append, l1]; rfl
        rw [l2, show (r + 1) * 3 - (r * 3 + 3) = 0 by omega]; rfl
      rw [hmc] at hd
      have hpl : (ps.take r ++ ps.drop (r + 1)).length = ps.length - 1 := by simp; omega
      have hO3 : OwnM w3 w.heap.size (.slice (some ⟨g, 0, none⟩) (ps.length - 1) cap) (ps.take r ++ ps.drop (r + 1)) := by
        refine ⟨by rw [hpl]; exact hd, fun p hp => ?_⟩
        have hp2 : p ∈ ps := by rcases List.mem_append.1 hp with h | h
                                · exact List.mem_of_mem_take h
                                · exact List.mem_of_mem_drop h
        have h4 := hO2.bod p hp2
        exact ⟨h4.1.apart hgd fun h0 b hb e => (h4.2.2 h0 b hb).2 (by rw [e]; rfl), h4.2.1, fun h0 b hb => ⟨Nat.lt_of_lt_of_le (h4.2.2 h0 b hb).1 hgd.size, (h4.2.2 h0 b hb).2⟩⟩
      have b3 : Below w.heap.size w2 w3 := (Below.refl _ _).grown hgd (by omega) (fun j hj => by cases hj; exact hgB)
      have HPL := Lib.hid hpl
      obtain ⟨n', hn'⟩ : ∃ n', n' = ps.length - 1 := ⟨_, rfl⟩
      rw [← hn'] at hO3 ⊢
      clear hn' hd hpl hmc
      go_wp2_with fail
      (with_reducible refine (own_any w.heap.size _ _ w3 hO3 (by rw [HPL.out]; omega) (by have := b3.size; omega)).mono ?_); rintro e w4 ⟨v4, qs, rfl, hm, h4, b4⟩
      obtain ⟨a4, c4, rfl⟩ := own_shape h4.1
      go_wp2_with fail
      go_ret
      exact ⟨_, qs, rfl, by rw [HD.out]; exact hm, h4, ((b1.trans (b2.mono hs1)).trans b3).trans b4⟩

end Go.Proofs.Ytkpdhpbnbpjceaa
