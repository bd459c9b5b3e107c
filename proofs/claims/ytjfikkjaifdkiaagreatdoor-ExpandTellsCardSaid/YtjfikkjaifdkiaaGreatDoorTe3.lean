/- Walks and plain laws, 3: The macro layer: Get, Drop, the library's Delete of one macro. No condition. The macro layer: Get, Put; the library's Insert of one macro at the end. No condition. The library's Insert of one element, at whatever place, walked. No condition. The macro layer: Put, whatever the macros. No condition. The macro layer's reference: what stands within groups. No condition. The macro layer: Group and Args at any place, the program's and the reference's; lists held against lists. No condition. The macro layer: one word; the program's walk and the reference's. No condition. Lists of lists, held against each other, and turned for the reference. No condition. The macro layer: what a body is, filled; the program's walk and the reference's. No condition. -/
import Derived.Test.YtjfikkjaifdkiaaGreatDoorTe2
import Derived.Deep.RegionLaw
import Derived.Lib.SliceRun
import Derived.Test.YtjfikkjaifdkiaaGreatDoorProg
namespace Go.Proofs.YtjfikkjaifdkiaaGreatDoor
open Go.RowKit

abbrev zm : List Value := [.string (S []), .int .i64 0, .slice none 0 0]
theorem run_clear_mac (w : World) (ty : TypeId) (g o c : Nat) (cur : Array Value) (hg : w.heap[g]? = some (.cells cur 96 (0, 0))) (hl : o + 3 ≤ cur.size) :
    (Builtin.clear_ #[51] ty #[.slice (some ⟨g, o, none⟩) 1 c]).run Tryz.prog w = .ok (.tuple #[]) (w.setCells g o zm) := by
  have hst := run_storeCells_cells (P := Tryz.prog) g o zm 0 w (fun j hj => by rw [row_cell hg]; simp at hj ⊢; omega) (fun j hj => row_free hg _) (by intro u hu; simp at hu; rcases hu with rfl | rfl | rfl <;> rfl)
  have hz : (Builtin.zeroCells #[Value.string (S []), .int .i64 0, .slice none 0 0] 1).toList = zm := by
    apply List.ext_getElem
    · simp [Builtin.zeroCells]
    · intro i h1 h2
      simp at h2
      rcases (by omega : i = 0 ∨ i = 1 ∨ i = 2) with rfl | rfl | rfl <;> simp [Builtin.zeroCells]
  simp only [Nat.add_zero] at hst
  simp [Builtin.clear_, run_underlying Tryz.underlying51, Tryz.zeroValue96, Value.cells, hz, hst]

set_option maxRecDepth 20000 in
set_option maxHeartbeats 4000000 in
/-- 'slices.Delete' of one macro. -/
theorem delete_one (B g n cap i : Nat) (xs : List Value) (w : World) (hown : w.ownsRow B 96 3 (.slice (some ⟨g, 0, none⟩) n cap) n xs) (hi : i < n) (hn : n ≤ 1000000) (h1 : ∀ u ∈ xs, u.oneCell' = true) :
    Calls Tryz.prog 107 #[.slice (some ⟨g, 0, none⟩) n cap, .int .i64 (i : Int), .int .i64 ((i : Int) + 1)] w fun e w' => e = .returned (.slice (some ⟨g, 0, none⟩) (n - 1) cap) ∧ w'.ownsRow B 96 3 (.slice (some ⟨g, 0, none⟩) (n - 1) cap) (n - 1) (xs.take (i * 3) ++ xs.drop ((i + 1) * 3)) ∧ w.grownBy w' (some g) := by
  have hsz := own_size hown
  obtain ⟨i0, z0, hi0, hz0, hz1, hz2, hz3⟩ := tyMac.hi
  obtain ⟨m, rfl⟩ : ∃ m, n = i + 1 + m := ⟨n - (i + 1), by omega⟩
  obtain ⟨news, hnews⟩ : ∃ news, news = xs.drop ((i + 1) * 3) := ⟨_, rfl⟩
  have hlen : news.length = m * 3 := by rw [hnews, List.length_drop, hown.1]; omega
  obtain ⟨A, hA, hsrc⟩ : ∃ A : Addr, (if cap = i + 1 then some (⟨g, 0, none⟩ : Addr) else some ⟨g, (i + 1) * 3, none⟩) = some A ∧ Hid (∀ t u, news[t]? = some u → w.drew.cell? (A.add t) = some u) := by
    by_cases h : cap = i + 1
    · refine ⟨⟨g, 0, none⟩, by simp [h], fun t u hu => ?_⟩
      have h0 : news = [] := List.eq_nil_of_length_eq_zero (by rw [hlen]; omega)
      rw [h0] at hu; simp at hu
    · refine ⟨⟨g, (i + 1) * 3, none⟩, by simp [h], fun t u hu => ?_⟩
      rw [Addr.add_lit]
      rw [hnews, List.getElem?_drop] at hu
      exact own_at hown hu
  have s1 := Lib.hid hlen
  have s2 : Hid (∀ u ∈ news, u.oneCell' = true) := Lib.hid (fun u hu => h1 u (by rw [hnews] at hu; exact List.mem_of_mem_drop hu))
  obtain ⟨cur, hrow, hcs⟩ := own_row hown
  have s3 : Hid (∀ t, t < news.length → (w.drew.cell? ⟨g, 0 + i * 3 + t, none⟩).isSome = true ∧ w.drew.frozen? ⟨g, 0 + i * 3 + t, none⟩ = false) := Lib.hid (fun t ht => by
    have hc2 : (i + 1 + m) * 3 ≤ cap * 3 := Nat.mul_le_mul_right _ hsz.1
    refine ⟨?_, row_free (W := w.drew) hrow _⟩
    rw [row_cell (W := w.drew) hrow]; simp; omega)
  have hpre := own_prefix hown (i := i) (by omega)
  have hl := own_lay Tryz.prog (w := w.drew) (m := m) hpre hlen (by omega) s2.out
  have hst := own_spoil Tryz.prog (o := (i + m) * 3) (news := zm) hl.1 (Nat.le_refl _) (by simp; omega) (by intro u hu; simp at hu; rcases hu with rfl | rfl | rfl <;> rfl)
  obtain ⟨cur2, hrow2, hcs2⟩ := own_row hl.1
  have hcl := fun ty c => run_clear_mac (w.drew.setCells g (i * 3) news) ty g ((i + m) * 3) c cur2 hrow2 (by omega)
  obtain ⟨W1, hW1⟩ : ∃ W1, W1 = w.drew.setCells g (i * 3) news := ⟨_, rfl⟩
  rw [← hW1] at hcl hst
  have HST := Lib.hid hst
  have HL := Lib.hid hl.2
  have HW : Hid (W1 = w.drew.setCells g (0 + i * 3) news) := Lib.hid (by rw [Nat.zero_add]; exact hW1)
  have HN := Lib.hid hnews
  clear hW1 hnews hlen hown hrow hpre hl hst hrow2 h1
  have hic : i ≤ cap := by omega
  have hjc : i + 1 ≤ cap := by omega
  have hsub : i + 1 + m - (i + m) = 1 := by omega
  have hx1 : (0 : Int) ≤ (i : Int) + 1 := by omega
  have hx2 : (i : Int) + 1 ≤ (i : Int) + 1 + (m : Int) := by omega
  go_enter Tryz.func107, Tryz.ntmps107
  go_wp2_with fail
  go_region_law (refine step_append_room rfl (.tmp 22) (.tmp 25) 51 rfl 96 i0 3 Tryz.underlying51 hi0 hz1 g 0 i cap (by simp [Act.eval, Act.put]) A m (cap - (i + 1)) news (by simp [Act.eval, Act.put]) s1.out hsrc.out s2.out (by omega) s3.out ?_; rw [← HW.out])
  go_wp2_with fail
  go_ret
  refine ⟨by rw [show i + 1 + m - 1 = i + m by omega]; rfl, by rw [show i + 1 + m - 1 = i + m by omega, ← HN.out]; exact HST.out.1, ?_⟩
  have h1 := HST.out.2
  have h2 : W1 = w.drew.setCells g (i * 3) news := by rw [HW.out, Nat.zero_add]
  have h3 : w.grownBy W1 (some g) := by rw [h2]; exact ⟨HL.out.os, HL.out.tape, HL.out.output, HL.out.size, HL.out.block⟩
  exact grownBy_trans h3 h1

/-! ### the pure side -/
/-- Without a name. -/
def dropM (ms : List Mac) (t : List UInt8) : List Mac := ms.filter fun m => m.1 != t
theorem dropM_none {ms : List Mac} {t : List UInt8} (h : (ms.map Prod.fst).contains t = false) : dropM ms t = ms := by
  unfold dropM
  rw [List.filter_eq_self]
  intro m hm
  have : m.1 ≠ t := by
    rintro e
    have : t ∈ ms.map Prod.fst := List.mem_map.2 ⟨m, hm, e⟩
    simp [this] at h
  simpa [bne] using this
theorem dropM_at {ms : List Mac} {t : List UInt8} (hs : Sorted (ms.map Prod.fst)) {i : Nat} (hi : i < ms.length) (h : ms[i].1 = t) : dropM ms t = ms.take i ++ ms.drop (i + 1) := by
  have e : ms = ms.take i ++ ms[i] :: ms.drop (i + 1) := by rw [← List.drop_eq_getElem_cons hi, List.take_append_drop]
  have hp := List.pairwise_iff_getElem.1 hs
  unfold dropM
  conv => lhs; rw [e]
  rw [List.filter_append, List.filter_cons]
  have h0 : (ms[i].1 != t) = false := by simp [bne, h]
  rw [h0]
  simp only [Bool.false_eq_true, if_false]
  congr 1
  · rw [List.filter_eq_self]
    intro m hm
    obtain ⟨j, hj, rfl⟩ := List.getElem_of_mem hm
    rw [List.length_take] at hj
    have := hp j i (by simp; omega) (by simp; omega) (by omega)
    simp only [List.getElem_map, List.getElem_take] at this ⊢
    rw [h] at this
    have hne : ms[j].1 ≠ t := by rintro e; rw [e, cb_self] at this; omega
    simpa [bne] using hne
  · rw [List.filter_eq_self]
    intro m hm
    obtain ⟨j, hj, rfl⟩ := List.getElem_of_mem hm
    rw [List.length_drop] at hj
    have := hp i (i + 1 + j) (by simp; omega) (by simp; omega) (by omega)
    simp only [List.getElem_map, List.getElem_drop] at this ⊢
    rw [h] at this
    have hne : ms[i + 1 + j].1 ≠ t := by rintro e; rw [e, cb_self] at this; omega
    simpa [bne] using hne

/-- v reads as these macros. -/
def RdM (w : World) (v : Value) (ps : List (Mac × Value)) : Prop := Rd w 3 v ps.length (mcs ps) ∧ ∀ p ∈ ps, Rt w p.2 p.1.2.2 ∧ p.1.2.2.length ≤ 1000000
theorem RdM.below' {w w' : World} {v : Value} {ps : List (Mac × Value)} (h : RdM w v ps) (hb : Below w.heap.size w w') : RdM w' v ps := ⟨h.1.below' hb, fun p hp => ⟨(h.2 p hp).1.below' hb, (h.2 p hp).2⟩⟩
theorem RdM.rd {w : World} {v : Value} {ps : List (Mac × Value)} (h : RdM w v ps) : Rd w 3 v ps.length (mcs ps) := h.1
theorem OwnM.row {w : World} {B : Nat} {v : Value} {ps : List (Mac × Value)} (h : OwnM w B v ps) : w.ownsRow B 96 3 v ps.length (mcs ps) := h.1
theorem OwnM.bod {w : World} {B : Nat} {v : Value} {ps : List (Mac × Value)} (h : OwnM w B v ps) : Bod w v ps := h.2
theorem RdM.one {w : World} {v : Value} {ps : List (Mac × Value)} (h : RdM w v ps) : ∀ u ∈ mcs ps, u.oneCell' = true := by
  intro u hu
  simp only [mcs, List.mem_flatMap, mc, List.mem_cons, List.not_mem_nil, or_false] at hu
  obtain ⟨p, hp, rfl | rfl | rfl⟩ := hu
  · rfl
  · rfl
  · obtain ⟨a, c, e⟩ := (h.2 p hp).1.shape
    rw [e]; rfl
theorem OwnM.rdM {w : World} {B : Nat} {v : Value} {ps : List (Mac × Value)} (h : OwnM w B v ps) : RdM w v ps := ⟨own_rd h.1, fun p hp => ⟨(h.2 p hp).1, (h.2 p hp).2.1⟩⟩
/-- A row that has been made anew over the old bodies. -/
theorem RdM.cloned {w w' : World} {v v' : Value} {ps : List (Mac × Value)} (h : RdM w v ps) (hb : Below w.heap.size w w') (ho : w'.ownsRow w.heap.size 96 3 v' ps.length (mcs ps)) : OwnM w' w.heap.size v' ps := by
  refine ⟨ho, fun p hp => ⟨(h.2 p hp).1.below' hb, (h.2 p hp).2, fun h0 b hb' => ?_⟩⟩
  have hu := Rd.under (h.2 p hp).1 h0 b hb'
  exact ⟨Nat.lt_of_lt_of_le hu hb.size, fun e => by have := (ho.lt b e).1; omega⟩
theorem names_map (ps : List (Mac × Value)) : (ps.map fun p => p.1.1) = (ps.map Prod.fst).map Prod.fst := by simp

set_option maxRecDepth 20000 in
set_option maxHeartbeats 1600000 in
/-- 'Drop'. -/
theorem drop9_any (v : Value) (ps : List (Mac × Value)) (t : List UInt8) (w : World) (hl : RdM w v ps) (hlen : ps.length ≤ 1000000) (hs : Sorted (ps.map fun p => p.1.1)) :
    Calls Tryz.prog 75 #[v, .string (S t)] w fun e w' => ∃ v' qs, e = .returned v' ∧ qs.map Prod.fst = dropM (ps.map Prod.fst) t ∧ OwnM w' w.heap.size v' qs ∧ Frs w.heap.size qs ∧ Below w.heap.size w w' := by
  have HR := Lib.hid hl
  obtain ⟨a0, c0, rfl⟩ := hl.1.shape
  clear hl
  go_enter Tryz.func75, Tryz.ntmps75
  go_wp2_with fail
  (with_reducible refine (clone_mac _ ps w HR.out.rd (by omega) HR.out.one).mono ?_); rintro e w1 ⟨v1, rfl, hown1, b1⟩
  have hO := HR.out.cloned b1 hown1
  have hs1 := b1.size
  have HF := Lib.hid (find_any v1 ps t w1 (own_rd hown1) hlen hs)
  cases hq : ((ps.map fun p => p.1.1)[lb (ps.map fun p => p.1.1) t]? == some t)
  · have HD := Lib.hid (show dropM (ps.map Prod.fst) t = ps.map Prod.fst from dropM_none (by rw [← names_map, ← lb_is hs]; exact hq))
    rw [hq] at HF
    obtain ⟨r, hr⟩ : ∃ r, r = lb (ps.map fun p => p.1.1) t := ⟨_, rfl⟩
    rw [← hr] at HF
    clear hq hr hs
    go_wp2_with fail
    (with_reducible refine HF.out.mono ?_); rintro e w2 ⟨rfl, b2⟩
    go_wp2_with fail
    (with_reducible refine (own_any w.heap.size v1 ps w2 (hO.below b2) hlen (by have := b2.size; omega)).mono ?_); rintro e w3 ⟨v3, qs, rfl, hm, h3, fr3, b3⟩
    obtain ⟨a3, c3, rfl⟩ := own_shape h3.1
    go_wp2_with fail
    go_ret
    exact ⟨_, qs, rfl, by rw [HD.out]; exact hm, h3, fr3, (b1.trans (b2.mono hs1)).trans b3⟩
  · obtain ⟨r, hr⟩ : ∃ r, r = lb (ps.map fun p => p.1.1) t := ⟨_, rfl⟩
    rw [← hr] at HF hq
    have hq2 : (ps.map fun p => p.1.1)[r]? = some t := by simpa using hq
    have hrl : r < ps.length := by have := (List.getElem?_eq_some_iff.1 hq2).1; simpa using this
    have HD := Lib.hid (show dropM (ps.map Prod.fst) t = (ps.take r ++ ps.drop (r + 1)).map Prod.fst by
      have e1 : (ps.map Prod.fst)[r]'(by simpa using hrl) = ps[r].1 := by simp
      rw [dropM_at (by rw [← names_map]; exact hs) (i := r) (by simpa using hrl) (by
        have := (List.getElem?_eq_some_iff.1 hq2).2
        simpa using this)]
      simp)
    rw [hq] at HF
    clear hq hr hs hq2
    rcases hown1.2 with ⟨_, h0⟩ | ⟨g, cap, cur, hv, hgB, hgr, _⟩
    · omega
    · subst hv
      go_wp2_with fail
      (with_reducible refine HF.out.mono ?_); rintro e w2 ⟨rfl, b2⟩
      have hO2 := hO.below b2
      have hs2 := b2.size
      go_wp2_with fail
      (with_reducible refine (delete_one w.heap.size g ps.length cap r (mcs ps) w2 hO2.row hrl hlen HR.out.one).mono ?_); rintro e w3 ⟨rfl, hd, hgd⟩
      have hmc : (mcs ps).take (r * 3) ++ (mcs ps).drop ((r + 1) * 3) = mcs (ps.take r ++ ps.drop (r + 1)) := by
        have e : mcs ps = mcs (ps.take r) ++ (mc ps[r] ++ mcs (ps.drop (r + 1))) := by
          conv => lhs; rw [← List.take_append_drop r ps, mcs_append, List.drop_eq_getElem_cons hrl]
          simp only [mcs, List.flatMap_cons]
        have l1 : (mcs (ps.take r)).length = r * 3 := by rw [mcs_length, List.length_take]; omega
        rw [mcs_append]
        conv => lhs; rw [e]
        rw [List.take_append_of_le_length (by omega), List.take_of_length_le (by omega), ← List.append_assoc]
        congr 1
        rw [List.drop_append, List.drop_eq_nil_of_le (by simp [l1, mc]; omega)]
        have l2 : (mcs (ps.take r) ++ mc ps[r]).length = r * 3 + 3 := by rw [List.length_append, l1]; rfl
        rw [l2, show (r + 1) * 3 - (r * 3 + 3) = 0 by omega]; rfl
      rw [hmc] at hd
      have hpl : (ps.take r ++ ps.drop (r + 1)).length = ps.length - 1 := by simp; omega
      have hO3 : OwnM w3 w.heap.size (.slice (some ⟨g, 0, none⟩) (ps.length - 1) cap) (ps.take r ++ ps.drop (r + 1)) := by
        refine ⟨by rw [hpl]; exact hd, fun p hp => ?_⟩
        have hp2 : p ∈ ps := by rcases List.mem_append.1 hp with h | h
                                · exact List.mem_of_mem_take h
                                · exact List.mem_of_mem_drop h
        have h4 := hO2.bod p hp2
        exact ⟨h4.1.apart hgd fun h0 b hb e => (h4.2.2 h0 b hb).2 (by rw [e]; rfl), h4.2.1, fun h0 b hb => ⟨Nat.lt_of_lt_of_le (h4.2.2 h0 b hb).1 hgd.size, (h4.2.2 h0 b hb).2⟩⟩
      have b3 : Below w.heap.size w2 w3 := (Below.refl _ _).grown hgd (by omega) (fun j hj => by cases hj; exact hgB)
      have HPL := Lib.hid hpl
      obtain ⟨n', hn'⟩ : ∃ n', n' = ps.length - 1 := ⟨_, rfl⟩
      rw [← hn'] at hO3 ⊢
      clear hn' hd hpl hmc
      go_wp2_with fail
      (with_reducible refine (own_any w.heap.size _ _ w3 hO3 (by rw [HPL.out]; omega) (by have := b3.size; omega)).mono ?_); rintro e w4 ⟨v4, qs, rfl, hm, h4, fr4, b4⟩
      obtain ⟨a4, c4, rfl⟩ := own_shape h4.1
      go_wp2_with fail
      go_ret
      exact ⟨_, qs, rfl, by rw [HD.out]; exact hm, h4, fr4, ((b1.trans (b2.mono hs1)).trans b3).trans b4⟩

theorem drop_any (v : Value) (ps : List (Mac × Value)) (t : List UInt8) (w : World) (hl : RdM w v ps) (hlen : ps.length ≤ 1000000) (hs : Sorted (ps.map fun p => p.1.1)) :
    Calls Tryz.prog 75 #[v, .string (S t)] w fun e w' => ∃ v' qs, e = .returned v' ∧ qs.map Prod.fst = dropM (ps.map Prod.fst) t ∧ OwnM w' w.heap.size v' qs ∧ Below w.heap.size w w' :=
  (drop9_any v ps t w hl hlen hs).mono fun _ _ ⟨v', qs, h1, h2, h3, _, h4⟩ => ⟨v', qs, h1, h2, h3, h4⟩
end Go.Proofs.YtjfikkjaifdkiaaGreatDoor

namespace Go.Proofs.YtjfikkjaifdkiaaGreatDoor
open Go.RowKit

/-- That of a name. -/
def getM (ms : List Mac) (t : List UInt8) : Mac × Bool := match ms.find? fun m => m.1 == t with | some m => (m, true) | none => (([], 0, []), false)
theorem getM_none {ms : List Mac} {t : List UInt8} (h : (ms.map Prod.fst).contains t = false) : getM ms t = (([], 0, []), false) := by
  have : (ms.find? fun m => m.1 == t) = none := by
    rw [List.find?_eq_none]
    intro m hm e
    have e : m.1 = t := by simpa using e
    have : t ∈ ms.map Prod.fst := List.mem_map.2 ⟨m, hm, e⟩
    simp [this] at h
  unfold getM
  rw [this]
theorem getM_at {ms : List Mac} {t : List UInt8} (hs : Sorted (ms.map Prod.fst)) {i : Nat} (hi : i < ms.length) (h : ms[i].1 = t) : getM ms t = (ms[i], true) := by
  have : (ms.find? fun m => m.1 == t) = some ms[i] := by
    rw [List.find?_eq_some_iff_getElem]
    refine ⟨by simpa using h, i, hi, rfl, fun j hj => ?_⟩
    have := List.pairwise_iff_getElem.1 hs j i (by simp; omega) (by simpa using hi) hj
    simp only [List.getElem_map] at this
    rw [h] at this
    have hne : ms[j].1 ≠ t := by rintro e; rw [e, cb_self] at this; omega
    simpa using hne
  unfold getM
  rw [this]

set_option maxRecDepth 20000 in
set_option maxHeartbeats 1600000 in
/-- 'Get'. -/
theorem get_any (v : Value) (ps : List (Mac × Value)) (t : List UInt8) (w : World) (hl : RdM w v ps) (hlen : ps.length ≤ 1000000) (hs : Sorted (ps.map fun p => p.1.1)) :
    Calls Tryz.prog 39 #[v, .string (S t)] w fun e w' => ∃ bv, e = .returned (.tuple #[.agg #[.string (S (getM (ps.map Prod.fst) t).1.1), .int .i64 (getM (ps.map Prod.fst) t).1.2.1, bv], .bool (getM (ps.map Prod.fst) t).2]) ∧ Rt w' bv (getM (ps.map Prod.fst) t).1.2.2 ∧ Below w.heap.size w w' := by
  have HR := Lib.hid hl
  obtain ⟨a0, c0, rfl⟩ := hl.1.shape
  clear hl
  obtain ⟨w0, hw0⟩ : ∃ w0, w0 = w.alloc (.cells #[.string (S []), .int .i64 0, .slice none 0 0] 96) := ⟨_, rfl⟩
  have hb0 : Below w.heap.size w w0 := by rw [hw0]; exact (Below.refl _ _).alloc (Nat.le_refl _) _
  have hg0 : w0.heap[w.heap.size]? = some (.cells #[.string (S []), .int .i64 0, .slice none 0 0] 96 (0, 0)) := by rw [hw0]; exact heap_alloc_new w _
  have hs0 := hb0.size
  have hl0 := row_lt hg0
  have HF := Lib.hid (find_any _ ps t w0 (HR.out.rd.below' hb0) hlen hs)
  have HW := Lib.hid hw0
  clear hw0
  cases hq : ((ps.map fun p => p.1.1)[lb (ps.map fun p => p.1.1) t]? == some t)
  · have HD := Lib.hid (show getM (ps.map Prod.fst) t = (([], 0, []), false) from getM_none (by rw [← names_map, ← lb_is hs]; exact hq))
    rw [hq] at HF
    obtain ⟨r, hr⟩ : ∃ r, r = lb (ps.map fun p => p.1.1) t := ⟨_, rfl⟩
    rw [← hr] at HF
    rw [HD.out]
    clear hq hr hs
    go_enter Tryz.func39, Tryz.ntmps39
    go_wp2_with fail
    rw [← HW.out]
    (with_reducible refine HF.out.mono ?_); rintro e w2 ⟨rfl, b2⟩
    have hg2 := (b2.block _ hl0).trans hg0
    have x0 : w2.cell? ⟨w.heap.size, 0, none⟩ = some (.string (S [])) := row_cell hg2 0
    have x1 : w2.cell? ⟨w.heap.size, 1, none⟩ = some (.int .i64 0) := row_cell hg2 1
    have x2 : w2.cell? ⟨w.heap.size, 2, none⟩ = some (.slice none 0 0) := row_cell hg2 2
    have y0 := row_free hg2 0
    have y1 := row_free hg2 1
    have y2 := row_free hg2 2
    go_wp2_with fail
    exact bodyPost_ret (v := .tuple #[.agg #[.string (S []), .int .i64 0, .slice none 0 0], .bool false]) (by simp [results, Tryz.results39, go_sem, x0, x1, x2]) rfl ⟨_, rfl, ⟨rfl, .inl ⟨.inl rfl, rfl⟩⟩, (((hb0.trans (b2.mono hs0)).setCell (p := ⟨w.heap.size, 0, none⟩) (Nat.le_refl _) _).setCell (p := ⟨w.heap.size, 1, none⟩) (Nat.le_refl _) _).setCell (p := ⟨w.heap.size, 2, none⟩) (Nat.le_refl _) _⟩
  · obtain ⟨r, hr⟩ : ∃ r, r = lb (ps.map fun p => p.1.1) t := ⟨_, rfl⟩
    rw [← hr] at HF hq
    have hq2 : (ps.map fun p => p.1.1)[r]? = some t := by simpa using hq
    have hrl : r < ps.length := by have := (List.getElem?_eq_some_iff.1 hq2).1; simpa using this
    have HD := Lib.hid (show getM (ps.map Prod.fst) t = (ps[r].1, true) by
      rw [getM_at (by rw [← names_map]; exact hs) (i := r) (by simpa using hrl) (by
        have := (List.getElem?_eq_some_iff.1 hq2).2
        simpa using this)]
      simp)
    rw [hq] at HF
    clear hq hr hs hq2
    have hbody := HR.out.2 ps[r] (List.getElem_mem hrl)
    obtain ⟨⟨⟨nm, pm, bm⟩, bv⟩, hp⟩ : ∃ x, x = ps[r] := ⟨_, rfl⟩
    rw [← hp] at hbody HD
    rw [HD.out]
    have HP := Lib.hid hp
    clear hp
    go_enter Tryz.func39, Tryz.ntmps39
    go_wp2_with fail
    rw [← HW.out]
    (with_reducible refine HF.out.mono ?_); rintro e w2 ⟨rfl, b2⟩
    have hg2 := (b2.block _ hl0).trans hg0
    obtain ⟨b1, o1, rfl, c1, c2, c3⟩ := mac_at ((HR.out.rd.below' hb0).below' b2) hrl
    have hb2 := (hbody.1.below' hb0).below' b2
    have hbl := hbody.2
    rw [← HP.out] at c1 c2 c3
    have hb2 : Rt w2 bv bm := hb2
    have hbl : bm.length ≤ 1000000 := hbl
    obtain ⟨ab, cb, rfl⟩ := hb2.shape
    have hs2 := b2.size
    clear hbody
    go_wp2_with fail
    (with_reducible refine (clone_tok _ bm _ (Rt.below' hb2 ((Below.refl _ _).alloc (Nat.le_refl _) _)) (by omega)).mono ?_); rintro e w3 ⟨cv, rfl, hcv, b3⟩
    obtain ⟨a3, c3', rfl⟩ := own_shape hcv
    have ht3 := (b3.block w2.heap.size (by simp)).trans (heap_alloc_new w2 _)
    have d1 : w3.cell? ⟨w2.heap.size, 0, none⟩ = some (.string (S nm)) := row_cell ht3 0
    have d2 : w3.cell? ⟨w2.heap.size, 1, none⟩ = some (.int .i64 pm) := row_cell ht3 1
    have d3 : w3.cell? ⟨w2.heap.size, 2, none⟩ = some (.slice ab bm.length cb) := row_cell ht3 2
    have f3 := row_free ht3 2
    have b23 : Below w2.heap.size w2 w3 := ((Below.refl _ _).alloc (Nat.le_refl _) _).trans (b3.mono (by simp))
    have hg3 := (b23.block _ (by omega)).trans hg2
    have x0 : w3.cell? ⟨w.heap.size, 0, none⟩ = some (.string (S [])) := row_cell hg3 0
    have x1 : w3.cell? ⟨w.heap.size, 1, none⟩ = some (.int .i64 0) := row_cell hg3 1
    have x2 : w3.cell? ⟨w.heap.size, 2, none⟩ = some (.slice none 0 0) := row_cell hg3 2
    have y0 := row_free hg3 0
    have y1 := row_free hg3 1
    have y2 := row_free hg3 2
    have bset := ((hb0.trans (b2.mono hs0)).trans (b23.mono (by omega))).setCell (p := ⟨w2.heap.size, 2, none⟩) (by omega : w.heap.size ≤ w2.heap.size) (.slice a3 bm.length c3')
    have hrt : Rt (w3.setCell ⟨w2.heap.size, 2, none⟩ (.slice a3 bm.length c3')) (.slice a3 bm.length c3') bm := Rt.apart (own_rd hcv) (setCell_grown _ _ _) fun _ b hb e => by
      injection e with e
      have e : b = w2.heap.size := e
      have := (hcv.lt b hb).1
      simp at this; omega
    have hsep : ∀ j b, (Value.slice a3 bm.length c3').ownBlock = some b → some b ≠ some (⟨w.heap.size, j, none⟩ : Addr).block := fun j b hb e => by
      injection e with e
      have e : b = w.heap.size := e
      have := (hcv.lt b hb).1
      simp at this; omega
    go_wp2_with fail
    exact bodyPost_ret (v := .tuple #[.agg #[.string (S nm), .int .i64 pm, .slice a3 bm.length c3'], .bool true]) (by simp [results, Tryz.results39, go_sem, x0, x1, x2]) rfl ⟨_, rfl,
      ((hrt.apart (setCell_grown _ ⟨w.heap.size, 0, none⟩ _) fun _ b hb => hsep 0 b hb).apart (setCell_grown _ ⟨w.heap.size, 1, none⟩ _) fun _ b hb => hsep 1 b hb).apart (setCell_grown _ ⟨w.heap.size, 2, none⟩ _) fun _ b hb => hsep 2 b hb,
      ((bset.setCell (p := ⟨w.heap.size, 0, none⟩) (Nat.le_refl _) _).setCell (p := ⟨w.heap.size, 1, none⟩) (Nat.le_refl _) _).setCell (p := ⟨w.heap.size, 2, none⟩) (Nat.le_refl _) _⟩

/-- What 'slices.Insert' of one macro at a place does. -/
def InsOk (n i : Nat) : Prop := ∀ (B : Nat) (v : Value) (xs : List Value) (w : World) (gv : Nat) (a b c : Value), w.ownsRow B 96 3 v n xs → w.heap[gv]? = some (.cells #[a, b, c] 96 (0, 0)) → v.ownBlock ≠ some gv → (∀ u ∈ xs ++ [a, b, c], u.oneCell' = true) → B ≤ w.heap.size → n ≤ 1000000 →
  Calls Tryz.prog 105 #[v, .int .i64 (i : Int), .slice (some ⟨gv, 0, none⟩) 1 1] w fun e w' => ∃ v', e = .returned v' ∧ w'.ownsRow B 96 3 v' (n + 1) (xs.take (i * 3) ++ [a, b, c] ++ xs.drop (i * 3)) ∧ w.grownBy w' v.ownBlock ∧ Near w v v'

set_option maxRecDepth 20000 in
set_option maxHeartbeats 1600000 in
/-- 'slices.Insert' at the end. -/
theorem insert_end (n : Nat) : InsOk n n := by
  intro B v xs w gv a b c hown hgv hne h1 hB hn
  have hrd : Rd w 3 (.slice (some ⟨gv, 0, none⟩) 1 1) 1 [a, b, c] := ⟨rfl, .inr ⟨gv, 0, 1, rfl, fun _ => row_lt hgv, fun j u hj => by rw [Nat.zero_add, row_cell hgv]; simpa using hj, Nat.le_refl _⟩⟩
  have hle : xs.take (n * 3) = xs := List.take_of_length_le (by rw [hown.1]; omega)
  have hde : xs.drop (n * 3) = [] := List.drop_eq_nil_of_le (by rw [hown.1]; omega)
  rw [hle, hde, List.append_nil]
  clear hle hde
  have hone : ∀ u ∈ [a, b, c], u.oneCell' = true := fun u hu => h1 u (List.mem_append_right _ hu)
  clear h1
  obtain ⟨av, cv, rfl⟩ := own_shape hown
  go_enter Tryz.func105, Tryz.ntmps105
  go_wp2_with (at_builtin; refine wp_app_all2 tyMac rfl _ _ rfl B hown hrd rfl rfl hone (by omega) (by omega) hB ?_; intro v5 w5 hown5 b5 hg5 hnear)
  all_goals (go_ret; first | exact ⟨_, rfl, hown5, hg5, hnear⟩ | (cases h; exact ⟨_, rfl, hown5, hg5, hnear⟩))

/-- With one more. -/
def putL (ms : List Mac) (m : Mac) : List Mac :=
  if (ms.map Prod.fst).contains m.1 then ms.set (lb (ms.map Prod.fst) m.1) m else ms.take (lb (ms.map Prod.fst) m.1) ++ m :: ms.drop (lb (ms.map Prod.fst) m.1)
/-- What 'Put' answers. -/
def putM (ms : List Mac) (m : Mac) : List Mac × Int :=
  if Mx.named m.1 = false then ([], 2) else if m.2.1 < 0 ∨ 9 < m.2.1 then ([], 1) else if (ms.map Prod.fst).contains m.1 = false ∧ 40 ≤ ms.length then ([], 3) else (putL ms m, 0)

theorem mcs_set3 (ps : List (Mac × Value)) (r : Nat) (h : r < ps.length) (m : Mac) (b : Value) : (((mcs ps).set (r * 3) (.string (S m.1))).set (r * 3 + 1) (.int .i64 m.2.1)).set (r * 3 + 2) b = mcs (ps.set r (m, b)) := by
  induction ps generalizing r with
  | nil => simp at h
  | cons t l ih =>
    have e : ∀ (t : Mac × Value) l, mcs (t :: l) = .string (S t.1.1) :: .int .i64 t.1.2.1 :: t.2 :: mcs l := fun t l => by simp [mcs, mc]
    cases r with
    | zero => simp [mcs, mc]
    | succ i =>
      have hi : i < l.length := by simpa using h
      have := ih i hi
      rw [e, show (i + 1) * 3 = i * 3 + 1 + 1 + 1 by omega, show i * 3 + 1 + 1 + 1 + 1 = i * 3 + 1 + 1 + 1 + 1 from rfl, show i * 3 + 1 + 1 + 1 + 2 = i * 3 + 2 + 1 + 1 + 1 by omega]
      simp only [List.set_cons_succ, e, this]

/-- A macro stored into what the call owns. -/
theorem put_cells {w : World} {B g c n r : Nat} {xs : List Value} {qs : List (Mac × Value)} {a b d : Value} (h : w.ownsRow B 96 3 (.slice (some ⟨g, 0, none⟩) n c) n xs) (hq : ((xs.set (r * 3) a).set (r * 3 + 1) b).set (r * 3 + 2) d = mcs qs) (hl : qs.length = n) (hb : Bod w (.slice (some ⟨g, 0, none⟩) n c) qs) :
    OwnM (((w.setCell ⟨g, r * 3, none⟩ a).setCell ⟨g, r * 3 + 1, none⟩ b).setCell ⟨g, r * 3 + 2, none⟩ d) B (.slice (some ⟨g, 0, none⟩) n c) qs := by
  have h3 := own_setk (own_setk (own_setk h (r * 3) a) (r * 3 + 1) b) (r * 3 + 2) d
  rw [hq] at h3
  refine ⟨by rw [hl]; exact h3, fun p hp => ?_⟩
  have h4 := hb p hp
  have hne : ∀ (o : Nat), 0 < p.1.2.2.length → ∀ b, p.2.ownBlock = some b → some b ≠ some (⟨g, o, none⟩ : Addr).block := fun o h0 b hb e => by
    injection e with e
    exact (h4.2.2 h0 b hb).2 (congrArg some e.symm)
  exact ⟨((h4.1.apart (setCell_grown _ ⟨g, r * 3, none⟩ _) (hne _)).apart (setCell_grown _ ⟨g, r * 3 + 1, none⟩ _) (hne _)).apart (setCell_grown _ ⟨g, r * 3 + 2, none⟩ _) (hne _), h4.2.1, fun h0 b hb => ⟨by simpa [World.setCell] using (h4.2.2 h0 b hb).1, (h4.2.2 h0 b hb).2⟩⟩
theorem put_below {B : Nat} {a w : World} (h : Below B a w) {g : Nat} (hg : B ≤ g) (o : Nat) (x y z : Value) : Below B a (((w.setCell ⟨g, o, none⟩ x).setCell ⟨g, o + 1, none⟩ y).setCell ⟨g, o + 2, none⟩ z) :=
  ((h.setCell (p := ⟨g, o, none⟩) hg x).setCell (p := ⟨g, o + 1, none⟩) hg y).setCell (p := ⟨g, o + 2, none⟩) hg z

theorem mc_mid (ps qs : List (Mac × Value)) (p : Mac × Value) : mcs (ps ++ p :: qs) = mcs ps ++ mc p ++ mcs qs := by simp [mcs]
theorem mcs_take (ps : List (Mac × Value)) (i : Nat) (hi : i ≤ ps.length) : (mcs ps).take (i * 3) = mcs (ps.take i) ∧ (mcs ps).drop (i * 3) = mcs (ps.drop i) := by
  have e : mcs ps = mcs (ps.take i) ++ mcs (ps.drop i) := by rw [← mcs_append, List.take_append_drop]
  have l1 : (mcs (ps.take i)).length = i * 3 := by rw [mcs_length, List.length_take]; omega
  constructor
  · conv => lhs; rw [e]
    rw [List.take_append_of_le_length (by omega), List.take_of_length_le (by omega)]
  · conv => lhs; rw [e]
    rw [List.drop_append, List.drop_eq_nil_of_le (by omega), l1, Nat.sub_self]; rfl

set_option maxRecDepth 20000 in
set_option maxHeartbeats 1600000 in
/-- 'Put', where the library's Insert does what it should. -/
theorem put9_any (v bv : Value) (ps : List (Mac × Value)) (m : Mac) (w : World) (hl : RdM w v ps) (hb : Rt w bv m.2.2) (hbl : m.2.2.length ≤ 1000000) (hnl : m.1.length ≤ 1000000000) (hlen : ps.length ≤ 100000) (hs : Sorted (ps.map fun p => p.1.1))
    (hins : (ps.map fun p => p.1.1).contains m.1 = false → InsOk ps.length (lb (ps.map fun p => p.1.1) m.1)) :
    Calls Tryz.prog 74 #[v, .agg #[.string (S m.1), .int .i64 m.2.1, bv]] w fun e w' => ∃ v' qs, e = .returned (.tuple #[v', .int .i64 (putM (ps.map Prod.fst) m).2]) ∧ qs.map Prod.fst = (putM (ps.map Prod.fst) m).1 ∧ OwnM w' w.heap.size v' qs ∧ Frs w.heap.size qs ∧ Below w.heap.size w w' := by
  obtain ⟨nm, pm, bm⟩ := m
  have HR := Lib.hid hl
  obtain ⟨a0, c0, rfl⟩ := hl.1.shape
  obtain ⟨ab, cb, rfl⟩ := hb.shape
  clear hl
  have HB := Lib.hid hb
  clear hb
  obtain ⟨w0, hw0⟩ : ∃ w0, w0 = w.alloc (.cells #[.string (S nm), .int .i64 pm, .slice ab bm.length cb] 96) := ⟨_, rfl⟩
  have hb0 : Below w.heap.size w w0 := by rw [hw0]; exact (Below.refl _ _).alloc (Nat.le_refl _) _
  have hg0 : w0.heap[w.heap.size]? = some (.cells #[.string (S nm), .int .i64 pm, .slice ab bm.length cb] 96 (0, 0)) := by rw [hw0]; exact heap_alloc_new w _
  have hs0 := hb0.size
  have hl0 := row_lt hg0
  have HF := Lib.hid (find_any _ ps nm w0 (HR.out.rd.below' hb0) (by omega) hs)
  have HW := Lib.hid hw0
  clear hw0
  have hbl : bm.length ≤ 1000000 := hbl
  have hnl : nm.length ≤ 1000000000 := hnl
  rw [lb_is hs] at HF
  have hrle : lb (ps.map fun p => p.1.1) nm ≤ ps.length := by have := lb_le (ps.map fun p => p.1.1) nm; simpa using this
  have hat : (ps.map fun p => p.1.1).contains nm = true → lb (ps.map fun p => p.1.1) nm < ps.length := fun h => by
    have h2 := lb_is (t := nm) hs
    rw [h] at h2
    have h3 : (ps.map fun p => p.1.1)[lb (ps.map fun p => p.1.1) nm]? = some nm := by simpa using h2
    have := (List.getElem?_eq_some_iff.1 h3).1
    simpa using this
  have hins : (ps.map fun p => p.1.1).contains nm = false → InsOk ps.length (lb (ps.map fun p => p.1.1) nm) := hins
  have hput : ∀ q r, (ps.map fun p => p.1.1).contains nm = q → lb (ps.map fun p => p.1.1) nm = r → putL (ps.map Prod.fst) (nm, pm, bm) = if q then (ps.map Prod.fst).set r (nm, pm, bm) else (ps.map Prod.fst).take r ++ (nm, pm, bm) :: (ps.map Prod.fst).drop r := by
    intro q r h1 h2
    rw [names_map] at h1 h2
    unfold putL
    rw [h1, h2]
  have hpm : ∀ q, (ps.map fun p => p.1.1).contains nm = q → putM (ps.map Prod.fst) (nm, pm, bm) = if Mx.named nm = false then ([], 2) else if pm < 0 ∨ 9 < pm then ([], 1) else if q = false ∧ 40 ≤ ps.length then ([], 3) else (putL (ps.map Prod.fst) (nm, pm, bm), 0) := by
    intro q h1
    rw [names_map] at h1
    unfold putM
    rw [h1, List.length_map]
  obtain ⟨r, hr⟩ : ∃ r, r = lb (ps.map fun p => p.1.1) nm := ⟨_, rfl⟩
  obtain ⟨q, hq⟩ : ∃ q, q = (ps.map fun p => p.1.1).contains nm := ⟨_, rfl⟩
  have HPL := Lib.hid (hput q r hq.symm hr.symm)
  have HPM := Lib.hid (hpm q hq.symm)
  rw [← hr, ← hq] at hins hat
  rw [← hr, ← hq] at HF
  rw [← hr] at hrle
  clear hr hq hput hpm hs
  have HN := Lib.hid (named_any nm hnl)
  obtain ⟨isn, hisn⟩ : ∃ b, b = Mx.named nm := ⟨_, rfl⟩
  rw [← hisn] at HN HPM
  clear hisn
  cases isn
  · have HX := Lib.hid (show putM (ps.map Prod.fst) (nm, pm, bm) = ([], 2) from HPM.out)
    rw [HX.out]
    go_enter Tryz.func74, Tryz.ntmps74
    go_wp2_with fail
    rw [← HW.out]
    (with_reducible refine HF.out.mono ?_); rintro e w2 ⟨rfl, b2⟩
    have hg2 := (b2.block _ hl0).trans hg0
    have x0 : w2.cell? ⟨w.heap.size, 0, none⟩ = some (.string (S nm)) := row_cell hg2 0
    go_wp2_with fail
    (with_reducible refine (HN.out _).mono ?_); rintro e w3 ⟨rfl, rfl⟩
    go_wp2_with fail
    go_ret2
    exact ⟨_, [], rfl, rfl, ⟨World.ownsRow_nil _ _ _ _, fun _ h => by cases h⟩, (fun _ h => by cases h), hb0.trans (b2.mono hs0)⟩
  · have HPM2 := Lib.hid (show putM (ps.map Prod.fst) (nm, pm, bm) = if pm < 0 ∨ 9 < pm then ([], 1) else if q = false ∧ 40 ≤ ps.length then ([], 3) else (putL (ps.map Prod.fst) (nm, pm, bm), 0) from HPM.out)
    clear HPM
    by_cases hp0 : pm < 0
    · have HX := Lib.hid (HPM2.out.trans (if_pos (.inl hp0)))
      rw [HX.out]
      go_enter Tryz.func74, Tryz.ntmps74
      go_wp2_with fail
      rw [← HW.out]
      (with_reducible refine HF.out.mono ?_); rintro e w2 ⟨rfl, b2⟩
      have hg2 := (b2.block _ hl0).trans hg0
      have x0 : w2.cell? ⟨w.heap.size, 0, none⟩ = some (.string (S nm)) := row_cell hg2 0
      have x1 : w2.cell? ⟨w.heap.size, 1, none⟩ = some (.int .i64 pm) := row_cell hg2 1
      go_wp2_with fail
      (with_reducible refine (HN.out _).mono ?_); rintro e w3 ⟨rfl, rfl⟩
      go_wp2_with fail
      go_ret2
      exact ⟨_, [], rfl, rfl, ⟨World.ownsRow_nil _ _ _ _, fun _ h => by cases h⟩, (fun _ h => by cases h), hb0.trans (b2.mono hs0)⟩
    · by_cases hp9 : 9 < pm
      · have HX := Lib.hid (HPM2.out.trans (if_pos (.inr hp9)))
        rw [HX.out]
        go_enter Tryz.func74, Tryz.ntmps74
        go_wp2_with fail
        rw [← HW.out]
        (with_reducible refine HF.out.mono ?_); rintro e w2 ⟨rfl, b2⟩
        have hg2 := (b2.block _ hl0).trans hg0
        have x0 : w2.cell? ⟨w.heap.size, 0, none⟩ = some (.string (S nm)) := row_cell hg2 0
        have x1 : w2.cell? ⟨w.heap.size, 1, none⟩ = some (.int .i64 pm) := row_cell hg2 1
        go_wp2_with fail
        (with_reducible refine (HN.out _).mono ?_); rintro e w3 ⟨rfl, rfl⟩
        go_wp2_with fail
        go_ret2
        exact ⟨_, [], rfl, rfl, ⟨World.ownsRow_nil _ _ _ _, fun _ h => by cases h⟩, (fun _ h => by cases h), hb0.trans (b2.mono hs0)⟩
      · have HPM3 := Lib.hid (HPM2.out.trans (if_neg (by omega)))
        clear HPM2
        cases q
        · by_cases h40 : 40 ≤ ps.length
          · have HX := Lib.hid (HPM3.out.trans (if_pos ⟨rfl, h40⟩))
            rw [HX.out]
            have h40' : (40 : Int) ≤ (ps.length : Int) := by omega
            go_enter Tryz.func74, Tryz.ntmps74
            go_wp2_with fail
            rw [← HW.out]
            (with_reducible refine HF.out.mono ?_); rintro e w2 ⟨rfl, b2⟩
            have hg2 := (b2.block _ hl0).trans hg0
            have x0 : w2.cell? ⟨w.heap.size, 0, none⟩ = some (.string (S nm)) := row_cell hg2 0
            have x1 : w2.cell? ⟨w.heap.size, 1, none⟩ = some (.int .i64 pm) := row_cell hg2 1
            go_wp2_with fail
            (with_reducible refine (HN.out _).mono ?_); rintro e w3 ⟨rfl, rfl⟩
            go_wp2_with fail
            go_ret2
            exact ⟨_, [], rfl, rfl, ⟨World.ownsRow_nil _ _ _ _, fun _ h => by cases h⟩, (fun _ h => by cases h), hb0.trans (b2.mono hs0)⟩
          · have HX := Lib.hid (HPM3.out.trans (if_neg (fun h => h40 h.2)))
            rw [HX.out]
            have h40' : decide ((40 : Int) ≤ (ps.length : Int)) = false := by simp; omega
            have HI := Lib.hid (hins rfl)
            go_enter Tryz.func74, Tryz.ntmps74
            go_wp2_with fail
            rw [← HW.out]
            (with_reducible refine HF.out.mono ?_); rintro e w2 ⟨rfl, b2⟩
            have hg2 := (b2.block _ hl0).trans hg0
            have x0 : w2.cell? ⟨w.heap.size, 0, none⟩ = some (.string (S nm)) := row_cell hg2 0
            have x1 : w2.cell? ⟨w.heap.size, 1, none⟩ = some (.int .i64 pm) := row_cell hg2 1
            go_wp2_with fail
            (with_reducible refine (HN.out _).mono ?_); rintro e w3 ⟨rfl, rfl⟩
            go_wp2_with fail
            (with_reducible refine (clone_mac _ ps w3 ((HR.out.rd.below' hb0).below' b2) (by omega) HR.out.one).mono ?_); rintro e w4 ⟨v1, rfl, hown4, b4⟩
            have hs2 := b2.size
            have hbw3 := hb0.trans (b2.mono hs0)
            have hbw4 := hbw3.trans (b4.mono hbw3.size)
            have hs4 := b4.size
            have hO4 := HR.out.cloned hbw4 (own_mono hown4 hbw3.size)
            have hg4 := (b4.block _ (by omega)).trans hg2
            clear x0 x1
            have x0 : w4.cell? ⟨w.heap.size, 0, none⟩ = some (.string (S nm)) := row_cell hg4 0
            have x1 : w4.cell? ⟨w.heap.size, 1, none⟩ = some (.int .i64 pm) := row_cell hg4 1
            have x2 : w4.cell? ⟨w.heap.size, 2, none⟩ = some (.slice ab bm.length cb) := row_cell hg4 2
            have hgl4 := row_lt hg4
            obtain ⟨wa, hwa⟩ : ∃ wa, wa = w4.alloc (.cells #[.string (S nm), .int .i64 pm, .slice ab bm.length cb] 96) := ⟨_, rfl⟩
            have hga : wa.heap[w4.heap.size]? = some (.cells #[.string (S nm), .int .i64 pm, .slice ab bm.length cb] 96 (0, 0)) := by rw [hwa]; exact heap_alloc_new w4 _
            have hba : Below w4.heap.size w4 wa := by rw [hwa]; exact (Below.refl _ _).alloc (Nat.le_refl _) _
            have hsa := hba.size
            have hOa := hO4.below hba
            have hgma := (hba.block _ hgl4).trans hg4
            have hINS := Lib.hid (HI.out w.heap.size v1 (mcs ps) wa w4.heap.size _ _ _ hOa.row hga (fun e => by have := (hO4.row.lt _ e).2; omega) (by
              intro u hu
              rcases List.mem_append.1 hu with hu | hu
              · exact HR.out.one u hu
              · simp at hu; rcases hu with rfl | rfl | rfl <;> rfl) (by omega) (by omega))
            have HWA := Lib.hid hwa
            clear hwa
            obtain ⟨a1, c1, rfl⟩ := own_shape hown4
            go_wp2_with fail
            rw [← HWA.out]
            (with_reducible refine hINS.out.mono ?_); rintro e w5 ⟨v2, rfl, hown5, hg5, hnear⟩
            obtain ⟨qs, hqs⟩ : ∃ qs, qs = ps.take r ++ ((nm, pm, bm), Value.slice ab bm.length cb) :: ps.drop r := ⟨_, rfl⟩
            have hql : qs.length = ps.length + 1 := by rw [hqs]; simp; omega
            have hqr : qs[r]? = some ((nm, pm, bm), Value.slice ab bm.length cb) := by
              rw [hqs, List.getElem?_append_right (by simp; omega)]
              have : r - (ps.take r).length = 0 := by simp; omega
              rw [this]; rfl
            have hrq : r < qs.length := by omega
            have hqr2 : qs[r] = ((nm, pm, bm), Value.slice ab bm.length cb) := by rw [List.getElem?_eq_getElem hrq] at hqr; simpa using hqr
            have hcells : (mcs ps).take (r * 3) ++ [.string (S nm), .int .i64 pm, .slice ab bm.length cb] ++ (mcs ps).drop (r * 3) = mcs qs := by
              rw [hqs, mc_mid, (mcs_take ps r hrle).1, (mcs_take ps r hrle).2]; rfl
            rw [hcells] at hown5
            have hv1 : ∀ b, (Value.slice a1 ps.length c1).ownBlock = some b → w3.heap.size ≤ b ∧ b < w4.heap.size := fun b hb => hown4.lt b hb
            have hg5m := (hg5.block _ (row_lt hgma) (fun e => by have := (hv1 _ e.symm).1; omega)).trans hgma
            have hbod : Bod w5 v2 qs := by
              intro p hp
              rw [hqs] at hp
              have key : Rt wa p.2 p.1.2.2 ∧ p.1.2.2.length ≤ 1000000 ∧ (0 < p.1.2.2.length → ∀ b, p.2.ownBlock = some b → b < wa.heap.size ∧ (Value.slice a1 ps.length c1).ownBlock ≠ some b) := by
                rcases List.mem_append.1 hp with h | h
                · exact hOa.bod p (List.mem_of_mem_take h)
                · rcases List.mem_cons.1 h with rfl | h
                  · refine ⟨(HB.out.below' hbw4).below' hba, hbl, fun h0 b hb => ?_⟩
                    have hu := Rd.under HB.out h0 b hb
                    exact ⟨by omega, fun e => by have := (hv1 b e).1; omega⟩
                  · exact hOa.bod p (List.mem_of_mem_drop h)
              refine ⟨key.1.apart hg5 fun h0 b hb e => (key.2.2 h0 b hb).2 e.symm, key.2.1, fun h0 b hb => ⟨Nat.lt_of_lt_of_le (key.2.2 h0 b hb).1 hg5.size, fun e => ?_⟩⟩
              rcases hnear with h | ⟨g', h, hle⟩
              · exact (key.2.2 h0 b hb).2 (h.symm.trans e)
              · rw [h] at e; injection e with e; have := (key.2.2 h0 b hb).1; omega
            have b5 : Below w.heap.size wa w5 := (Below.refl _ _).grown hg5 (by omega) (fun j hj => by have := (hv1 j hj).1; omega)
            have hbw5 := (hbw4.trans (hba.mono (by omega : w.heap.size ≤ w4.heap.size))).trans b5
            rcases hown5.2 with ⟨_, h0⟩ | ⟨g, cap, cur, hv, hgB, hgr, _⟩
            · omega
            · subst hv
              clear x0 x1 x2
              have x0 : w5.cell? ⟨w.heap.size, 0, none⟩ = some (.string (S nm)) := row_cell hg5m 0
              have x1 : w5.cell? ⟨w.heap.size, 1, none⟩ = some (.int .i64 pm) := row_cell hg5m 1
              have x2 : w5.cell? ⟨w.heap.size, 2, none⟩ = some (.slice ab bm.length cb) := row_cell hg5m 2
              have z0 := own_at hown5 (mcs_at qs r hrq).1
              have z1 := own_at hown5 (mcs_at qs r hrq).2.1
              have z2 := own_at hown5 (mcs_at qs r hrq).2.2
              rw [hqr2] at z0 z1 z2
              have f0 := own_free hown5 (r * 3)
              have f1 := own_free hown5 (r * 3 + 1)
              have f2 := own_free hown5 (r * 3 + 2)
              have hri : (r : Int) < (ps.length : Int) + 1 := by omega
              have hset : qs.set r ((nm, pm, bm), Value.slice ab bm.length cb) = qs := by
                apply List.ext_getElem
                · simp
                · intro i h1 h2
                  rw [List.getElem_set]
                  split
                  · rename_i h; subst h; exact hqr2.symm
                  · rfl
              have hOp := put_cells (r := r) (qs := qs) hown5 (by have := mcs_set3 qs r hrq (nm, pm, bm) (.slice ab bm.length cb); rw [hset] at this; exact this) hql hbod
              have hbp := put_below hbw5 (by omega : w.heap.size ≤ g) (r * 3) (.string (S nm)) (.int .i64 pm) (.slice ab bm.length cb)
              obtain ⟨wp, hwp⟩ : ∃ wp, wp = ((w5.setCell ⟨g, r * 3, none⟩ (.string (S nm))).setCell ⟨g, r * 3 + 1, none⟩ (.int .i64 pm)).setCell ⟨g, r * 3 + 2, none⟩ (.slice ab bm.length cb) := ⟨_, rfl⟩
              rw [← hwp] at hOp hbp
              have HWP := Lib.hid hwp
              clear hwp
              have HL := Lib.hid (show putL (ps.map Prod.fst) (nm, pm, bm) = qs.map Prod.fst by rw [HPL.out, hqs]; simp)
              have HQL := Lib.hid hql
              clear hqs hql hset hqr2 hqr hbod hcells
              go_wp2_with fail
              rw [← HWP.out]
              (with_reducible refine (own_any w.heap.size _ _ wp hOp (by rw [HQL.out]; omega) hbp.size).mono ?_); rintro e w6 ⟨v6, qs2, rfl, hm, h6, fr6, b6⟩
              obtain ⟨a6, c6, rfl⟩ := own_shape h6.row
              go_wp2_with fail
              go_ret2
              exact ⟨_, qs2, rfl, by rw [HL.out]; exact hm, h6, fr6, hbp.trans b6⟩
        · have HX := Lib.hid (HPM3.out.trans (if_neg (fun h => Bool.noConfusion h.1)))
          rw [HX.out]
          have hrl := hat rfl
          go_enter Tryz.func74, Tryz.ntmps74
          go_wp2_with fail
          rw [← HW.out]
          (with_reducible refine HF.out.mono ?_); rintro e w2 ⟨rfl, b2⟩
          have hg2 := (b2.block _ hl0).trans hg0
          have x0 : w2.cell? ⟨w.heap.size, 0, none⟩ = some (.string (S nm)) := row_cell hg2 0
          have x1 : w2.cell? ⟨w.heap.size, 1, none⟩ = some (.int .i64 pm) := row_cell hg2 1
          go_wp2_with fail
          (with_reducible refine (HN.out _).mono ?_); rintro e w3 ⟨rfl, rfl⟩
          go_wp2_with fail
          (with_reducible refine (clone_mac _ ps w3 ((HR.out.rd.below' hb0).below' b2) (by omega) HR.out.one).mono ?_); rintro e w4 ⟨v1, rfl, hown4, b4⟩
          have hs2 := b2.size
          have hbw3 := hb0.trans (b2.mono hs0)
          have hbw4 := hbw3.trans (b4.mono hbw3.size)
          have hs4 := b4.size
          have hO4 := HR.out.cloned hbw4 (own_mono hown4 hbw3.size)
          have hg4 := (b4.block _ (by omega)).trans hg2
          clear x0 x1
          rcases hown4.2 with ⟨_, h0⟩ | ⟨g, cap, cur, hv, hgB, hgr, _⟩
          · omega
          · subst hv
            have x0 : w4.cell? ⟨w.heap.size, 0, none⟩ = some (.string (S nm)) := row_cell hg4 0
            have x1 : w4.cell? ⟨w.heap.size, 1, none⟩ = some (.int .i64 pm) := row_cell hg4 1
            have x2 : w4.cell? ⟨w.heap.size, 2, none⟩ = some (.slice ab bm.length cb) := row_cell hg4 2
            have z0 := own_at hown4 (mcs_at ps r hrl).1
            have z1 := own_at hown4 (mcs_at ps r hrl).2.1
            have z2 := own_at hown4 (mcs_at ps r hrl).2.2
            have f0 := own_free hown4 (r * 3)
            have f1 := own_free hown4 (r * 3 + 1)
            have f2 := own_free hown4 (r * 3 + 2)
            have hri : (r : Int) < (ps.length : Int) := by omega
            have hOp := put_cells (r := r) (qs := ps.set r ((nm, pm, bm), .slice ab bm.length cb)) hO4.row (mcs_set3 ps r hrl (nm, pm, bm) (.slice ab bm.length cb)) (by simp) (fun p hp => by
              rcases List.mem_or_eq_of_mem_set hp with hp | rfl
              · exact hO4.bod p hp
              · refine ⟨HB.out.below' hbw4, hbl, fun h0 b hb => ?_⟩
                have hu := Rd.under HB.out h0 b hb
                exact ⟨by have := hbw4.size; omega, fun e => by have e : some g = some b := e; injection e with e; omega⟩)
            have hbp := put_below hbw4 (by omega : w.heap.size ≤ g) (r * 3) (.string (S nm)) (.int .i64 pm) (.slice ab bm.length cb)
            obtain ⟨wp, hwp⟩ : ∃ wp, wp = ((w4.setCell ⟨g, r * 3, none⟩ (.string (S nm))).setCell ⟨g, r * 3 + 1, none⟩ (.int .i64 pm)).setCell ⟨g, r * 3 + 2, none⟩ (.slice ab bm.length cb) := ⟨_, rfl⟩
            rw [← hwp] at hOp hbp
            have HWP := Lib.hid hwp
            clear hwp
            have HL := Lib.hid (show putL (ps.map Prod.fst) (nm, pm, bm) = (ps.set r ((nm, pm, bm), Value.slice ab bm.length cb)).map Prod.fst by rw [HPL.out, List.map_set]; rfl)
            go_wp2_with fail
            rw [← HWP.out]
            (with_reducible refine (own_any w.heap.size _ _ wp hOp (by simp; omega) hbp.size).mono ?_); rintro e w5 ⟨v5, qs, rfl, hm, h5, fr5, b5⟩
            obtain ⟨a5, c5, rfl⟩ := own_shape h5.row
            go_wp2_with fail
            go_ret2
            exact ⟨_, qs, rfl, by rw [HL.out]; exact hm, h5, fr5, hbp.trans b5⟩

theorem put_any (v bv : Value) (ps : List (Mac × Value)) (m : Mac) (w : World) (hl : RdM w v ps) (hb : Rt w bv m.2.2) (hbl : m.2.2.length ≤ 1000000) (hnl : m.1.length ≤ 1000000000) (hlen : ps.length ≤ 100000) (hs : Sorted (ps.map fun p => p.1.1))
    (hins : (ps.map fun p => p.1.1).contains m.1 = false → InsOk ps.length (lb (ps.map fun p => p.1.1) m.1)) :
    Calls Tryz.prog 74 #[v, .agg #[.string (S m.1), .int .i64 m.2.1, bv]] w fun e w' => ∃ v' qs, e = .returned (.tuple #[v', .int .i64 (putM (ps.map Prod.fst) m).2]) ∧ qs.map Prod.fst = (putM (ps.map Prod.fst) m).1 ∧ OwnM w' w.heap.size v' qs ∧ Below w.heap.size w w' :=
  (put9_any v bv ps m w hl hb hbl hnl hlen hs hins).mono fun _ _ ⟨v', qs, h1, h2, h3, _, h4⟩ => ⟨v', qs, h1, h2, h3, h4⟩
end Go.Proofs.YtjfikkjaifdkiaaGreatDoor

namespace Go.Proofs.YtjfikkjaifdkiaaGreatDoor
open Go.RowKit Go.Shelf Go.Lib

theorem tyMac9 : SlTy Tryz.prog 51 96 3 48 := SlTy.mk' (z := (.agg #[.string ⟨#[]⟩, .int .i64 0, .slice none 0 0])) Tryz.underlying51 (by kernel_rfl) rfl (by decide)

/-- What the library's Insert of one element at a place does. -/
def InsM (n i : Nat) : Prop := ∀ (B : Nat) (v : Value) (xs news : List Value) (w : World) (gv : Nat), w.ownsRow B 96 3 v n xs → news.length = 3 → w.heap[gv]? = some (.cells news.toArray 96 (0, 0)) → v.ownBlock ≠ some gv → (∀ u ∈ xs ++ news, u.oneCell' = true) → B ≤ w.heap.size → n ≤ 1000000 →
  Calls Tryz.prog 105 #[v, .int .i64 (i : Int), .slice (some ⟨gv, 0, none⟩) 1 1] w fun e w' => ∃ v', e = .returned v' ∧ w'.ownsRow B 96 3 v' (n + 1) (xs.take (i * 3) ++ news ++ xs.drop (i * 3)) ∧ w.grownBy w' v.ownBlock ∧ Near w v v'

set_option maxRecDepth 20000 in
set_option maxHeartbeats 1600000 in
theorem insM_end (n : Nat) : InsM n n := by
  intro B v xs news w gv hown hnl hgv hne h1 hB hn
  have hrd : Rd w 3 (.slice (some ⟨gv, 0, none⟩) 1 1) 1 news := ⟨by rw [hnl], .inr ⟨gv, 0, 1, rfl, fun _ => row_lt hgv, fun j u hj => by rw [Nat.zero_add, row_cell hgv]; simpa using hj, Nat.le_refl _⟩⟩
  have hle : xs.take (n * 3) = xs := List.take_of_length_le (by rw [hown.1]; omega)
  have hde : xs.drop (n * 3) = [] := List.drop_eq_nil_of_le (by rw [hown.1]; omega)
  rw [hle, hde, List.append_nil]
  clear hle hde
  have hone : ∀ u ∈ news, u.oneCell' = true := fun u hu => h1 u (List.mem_append_right _ hu)
  clear h1
  obtain ⟨av, cv, rfl⟩ := own_shape hown
  go_enter Tryz.func105, Tryz.ntmps105
  go_wp2_with (at_builtin; refine wp_app_all2 tyMac9 rfl _ _ rfl B hown hrd rfl rfl hone (by omega) (by omega) hB ?_; intro v5 w5 hown5 b5 hg5 hnear)
  all_goals (go_ret; first | exact ⟨_, rfl, hown5, hg5, hnear⟩ | (cases h; exact ⟨_, rfl, hown5, hg5, hnear⟩))

set_option maxRecDepth 20000 in
set_option maxHeartbeats 4000000 in
/-- There is room: in place. -/
theorem insM_shift (B b n c i gv : Nat) (xs news : List Value) (w : World) (hown : w.ownsRow B 96 3 (.slice (some ⟨b, 0, none⟩) n c) n xs) (hi : i < n) (hroom : n + 1 ≤ c) (hnl : news.length = 3) (hgv : w.heap[gv]? = some (.cells news.toArray 96 (0, 0))) (hne : gv ≠ b) (h1 : ∀ u ∈ xs, u.oneCell' = true) (h2 : ∀ u ∈ news, u.oneCell' = true) (hn : n ≤ 1000000) :
    Calls Tryz.prog 105 #[.slice (some ⟨b, 0, none⟩) n c, .int .i64 (i : Int), .slice (some ⟨gv, 0, none⟩) 1 1] w fun e w' => e = .returned (.slice (some ⟨b, 0, none⟩) (n + 1) c) ∧ w' = (w.drew.setCells b ((i + 1) * 3) (xs.drop (i * 3))).setCells b (i * 3) news := by
  have hxl := hown.1
  obtain ⟨cur, hrow, hcs⟩ := own_row hown
  have hsz := own_size hown
  have hc63 : c ≤ 9223372036854775807 := by have := hsz.2; unfold maxLen at this; omega
  obtain ⟨i0, z0, hi0, hz0, hz1, hz2, hz3⟩ := tyMac9.hi
  have hsi : (Tryz.prog.info? 96).map (·.size) = some 3 := by rw [hi0]; simp [hz1]
  have hszE : ∀ w, (Go.sizeOf 96).run Tryz.prog w = .ok 3 w := fun w => by simp [Go.sizeOf, typeInfo, hi0, hz1]
  have hq1 : ¬ ((1 : Int) = 0) := by omega
  have hq2 : ¬ ((i : Int) = (n : Int)) := by omega
  have hdl : (xs.drop (i * 3)).length = (n - i) * 3 := by rw [List.length_drop, hxl]; omega
  have hov : ∀ lb cb, (callFunc 119 #[.slice (some ⟨gv, 0, none⟩) 1 1, .slice (some ⟨b, (i + 1) * 3, none⟩) lb cb]).run Tryz.prog w = .ok (.value (.bool false)) w := fun lb cb => by
    rw [run_callFunc_extern Tryz.func119 (by kernel_rfl) (by kernel_rfl) (by kernel_rfl) (e := Extern.SlicesOverlaps.overlaps #[51, 51] #[4]) (by kernel_rfl),
      Lib.run_overlaps_apart w 51 4 96 Tryz.underlying51 3 hszE ⟨gv, 0, none⟩ ⟨b, (i + 1) * 3, none⟩ 1 1 lb cb hne 96 96 news.toArray.size cur.size (by simp [World.shape?, hgv]) (by simp [World.shape?, hrow]) (by rw [hcs]; omega) (row_free hgv 0) (row_free hgv _)]
    rfl
  have hsp : ∀ j, j < c * 3 → (w.cell? ⟨b, j, none⟩).isSome = true := fun j hj => by rw [row_cell hrow, Array.getElem?_eq_getElem (by omega)]; rfl
  have hcellx : ∀ j v, xs[j]? = some v → w.cell? ⟨b, j, none⟩ = some v := fun j v hj => by
    have := hown.cells (g := b) rfl j v hj
    rw [addr_add, Nat.zero_add] at this; exact this
  have hcp1 : ∀ ty dc sc, (Builtin.copy_ #[51, 51] ty #[.slice (some ⟨b, (i + 1) * 3, none⟩) (n - i) dc, .slice (some ⟨b, i * 3, none⟩) (n + 1 - i) sc]).run Tryz.prog w.drew = .ok (goInt (n - i : Nat)) (w.drew.setCells b ((i + 1) * 3) (xs.drop (i * 3))) := fun ty dc sc =>
    run_copyK w.drew _ _ ty 96 3 b ((i + 1) * 3) (n - i) dc ⟨b, i * 3, none⟩ (n + 1 - i) sc (n - i) (xs.drop (i * 3)) Tryz.underlying51 hsi (by simp only [Nat.min_def]; split <;> omega) hdl
      (fun j v hj => by rw [addr_add]; exact hcellx (i * 3 + j) v (by rwa [List.getElem?_drop] at hj))
      (fun j hj => hsp _ (by omega)) (fun j hj => row_free (W := w.drew) hrow _) (fun v hv => h1 v (List.mem_of_mem_drop hv))
  obtain ⟨W1, hW1⟩ : ∃ W1, W1 = w.drew.setCells b ((i + 1) * 3) (xs.drop (i * 3)) := ⟨_, rfl⟩
  have hsp1 : ∀ j, j < c * 3 → (W1.cell? ⟨b, j, none⟩).isSome = true := fun j hj => by
    rw [hW1]
    have h := isSome_setCells b (xs.drop (i * 3)) ((i + 1) * 3) w.drew (fun t ht => hsp _ (by omega)) j (hsp j hj)
    exact h
  have hcp2 : ∀ (W : World), (∀ x, W.cell? x = W1.cell? x) → (∀ x, W.frozen? x = W1.frozen? x) → ∀ ty dc, (Builtin.copy_ #[51, 51] ty #[.slice (some ⟨b, i * 3, none⟩) (n + 1 - i) dc, .slice (some ⟨gv, 0, none⟩) 1 1]).run Tryz.prog W = .ok (goInt 1) (W.setCells b (i * 3) news) := fun W hWc hWf ty dc =>
    run_copyK W _ _ ty 96 3 b (i * 3) (n + 1 - i) dc ⟨gv, 0, none⟩ 1 1 1 news Tryz.underlying51 hsi (by simp only [Nat.min_def]; split <;> omega) (by rw [hnl])
      (fun j v hj => by
        rw [addr_add, hWc, hW1, World.cell?_setCells_out b _ _ _ _ (fun h _ => absurd h hne)]
        rw [Nat.zero_add]
        exact (row_cell hgv j).trans (by simpa using hj))
      (fun j hj => by rw [hWc]; exact hsp1 _ (by omega)) (fun j hj => by rw [hWf, hW1, World.frozen?_setCells]; exact row_free (W := w.drew) hrow _) h2
  rw [← hW1] at hcp1
  clear hown hrow hgv hsp hcellx hsp1 hszE
  have mixed : Tryz.prog.follows Departure.mixedOrders = true := by kernel_rfl
  have hw1 : IntKind.i64.wrap ((i : Int) + 1) = (i : Int) + 1 := (Go.IntWalk.i64_left _).trans (Go.IntWalk.wrap64_in _ (by omega))
  have hb1 : (0 : Int) ≤ (i : Int) + 1 := by omega
  have hb2 : (i : Int) + 1 ≤ (n : Int) + 1 := by omega
  have hb3 : (i : Int) ≤ (n : Int) + 1 := by omega
  have htn : ((i : Int) + 1).toNat = i + 1 := by omega
  have hci : ¬ (c = i + 1) := by omega
  have hci2 : ¬ (c = i) := by omega
  go_enter Tryz.func105, Tryz.ntmps105
  go_wp2_with (simp only [hov])
  go_region_law_o (refine step_copy_runI rfl _ _ 51 51 rfl _ _ (by simp [Act.eval, Act.put]) (by simp [Act.eval, Act.put]) (hcp1 _ _ _) ?_)
  go_wp2_with (at_builtin; refine wpList_copy_runI _ rfl _ _ 51 51 rfl _ _ rfl rfl (hcp2 _ (fun _ => rfl) (fun _ => rfl) _ _) ?_)
  go_ret
  first | exact ⟨rfl, rfl⟩ | exact ⟨rfl, by rw [hW1]⟩

set_option maxRecDepth 20000 in
set_option maxHeartbeats 4000000 in
/-- There is no room: a new row. -/
theorem insM_grow (B b n c i gv : Nat) (xs news : List Value) (w : World) (hown : w.ownsRow B 96 3 (.slice (some ⟨b, 0, none⟩) n c) n xs) (hi : i < n) (hroom : c < n + 1) (hnl : news.length = 3) (hgv : w.heap[gv]? = some (.cells news.toArray 96 (0, 0))) (h1 : ∀ u ∈ xs, u.oneCell' = true) (h2 : ∀ u ∈ news, u.oneCell' = true) (hn : n ≤ 1000000) :
    Calls Tryz.prog 105 #[.slice (some ⟨b, 0, none⟩) n c, .int .i64 (i : Int), .slice (some ⟨gv, 0, none⟩) 1 1] w fun e w' => e = .returned (.slice (some ⟨w.heap.size, 0, none⟩) (n + 1) (grownCap w (n + 1) c 96)) ∧
      w' = (((w.alloc (.cells ((xs.take (i * 3)).toArray ++ Builtin.zeroCells (Value.cells (.agg #[.string ⟨#[]⟩, .int .i64 0, .slice none 0 0])) (n + 1 - i) ++ Builtin.zeroCells (Value.cells (.agg #[.string ⟨#[]⟩, .int .i64 0, .slice none 0 0])) (grownCap w (n + 1) c 96 - (n + 1))) 96)).drew.setCells w.heap.size (i * 3) news).drew).setCells w.heap.size ((i + 1) * 3) (xs.drop (i * 3)) := by
  have hxl := hown.1
  obtain ⟨cur, hrow, hcs⟩ := own_row hown
  have hsz := own_size hown
  obtain ⟨i0, hi0, hz0, hz1, hz2⟩ := info_parts (show (Tryz.prog.info? 96).map (fun i => (i.zero, i.size, i.bytes)) = some (some (.agg #[.string ⟨#[]⟩, .int .i64 0, .slice none 0 0]), 3, 48) by kernel_rfl)
  have hsi : (Tryz.prog.info? 96).map (·.size) = some 3 := by rw [hi0]; simp [hz1]
  have hq1 : ¬ ((1 : Int) = 0) := by omega
  have hq2 : ¬ ((i : Int) = (n : Int)) := by omega
  have hq3 : (c : Int) < (n : Int) + 1 := by omega
  have hbw : b < w.heap.size := row_lt hrow
  have hvw : gv < w.heap.size := row_lt hgv
  have hkk : (n : Int) + 1 - (i : Int) = ((n + 1 - i : Nat) : Int) := by omega
  have hik : i + (n + 1 - i) = n + 1 := by omega
  have hdl : (xs.drop (i * 3)).length = (n - i) * 3 := by rw [List.length_drop, hxl]; omega
  have hcellx : ∀ j v, xs[j]? = some v → w.cell? ⟨b, j, none⟩ = some v := fun j v hj => by
    have := hown.cells (g := b) rfl j v hj
    rw [addr_add, Nat.zero_add] at this; exact this
  have hold : (Builtin.firstCells i0.size i (.slice (some ⟨b, 0, none⟩) i c)).run Tryz.prog w.drew = .ok (xs.take (i * 3)).toArray w.drew := by
    rw [hz1]
    exact run_firstCells_some w.drew 3 i ⟨b, 0, none⟩ i c (xs.take (i * 3)) (by rw [List.length_take, hxl]; omega) (fun j v hj => by
      rw [addr_add, Nat.zero_add]
      rw [List.getElem?_take] at hj
      split at hj
      · exact hcellx j v hj
      · cases hj)
  have hrz : ∀ ty, (Builtin.append_ #[51, 3] ty #[.slice (some ⟨b, 0, none⟩) i c, .int .i64 ((n : Int) + 1 - (i : Int))]).run Tryz.prog w =
      .ok (.slice (some ⟨w.heap.size, 0, none⟩) (n + 1) (grownCap w (n + 1) c 96)) (w.drew.alloc (.cells ((xs.take (i * 3)).toArray ++ Builtin.zeroCells (Value.cells (.agg #[.string ⟨#[]⟩, .int .i64 0, .slice none 0 0])) (n + 1 - i) ++ Builtin.zeroCells (Value.cells (.agg #[.string ⟨#[]⟩, .int .i64 0, .slice none 0 0])) (grownCap w (n + 1) c 96 - (n + 1))) 96)) := fun ty => by
    have h := Lib.run_append_grow_zeros w 51 3 ty 96 i0 _ .i64 .i64 Tryz.underlying51 Tryz.underlying3 hi0 hz0 (some ⟨b, 0, none⟩) i c (xs.take (i * 3)) hold (n + 1 - i) (by omega) (by omega) (by omega) (by omega) (by rw [hz2]; omega) (by rw [hz2, hik]; exact growslice_fits hroom (by omega))
    rw [hik] at h
    rw [hkk]
    exact h
  obtain ⟨G, hG⟩ : ∃ G, G = grownCap w (n + 1) c 96 := ⟨_, rfl⟩
  obtain ⟨ROW, hROW⟩ : ∃ ROW : Array Value, ROW = (xs.take (i * 3)).toArray ++ Builtin.zeroCells (Value.cells (.agg #[.string ⟨#[]⟩, .int .i64 0, .slice none 0 0])) (n + 1 - i) ++ Builtin.zeroCells (Value.cells (.agg #[.string ⟨#[]⟩, .int .i64 0, .slice none 0 0])) (G - (n + 1)) := ⟨_, rfl⟩
  rw [← hG] at hrz ⊢
  rw [← hROW] at hrz ⊢
  have hRl : (n + 1) * 3 ≤ ROW.size := by
    rw [hROW]
    simp [Builtin.zeroCells, Value.cells, hxl]
    omega
  obtain ⟨W1, hW1⟩ : ∃ W1, W1 = w.drew.alloc (.cells ROW 96) := ⟨_, rfl⟩
  rw [← hW1] at hrz
  have hN : ∀ j, j < (n + 1) * 3 → (W1.cell? ⟨w.heap.size, j, none⟩).isSome = true := fun j hj => by
    rw [hW1, World.cell?_alloc_at (w := w.drew) ROW _ w.heap.size j rfl, Array.getElem?_eq_getElem (by omega)]; rfl
  have hNf : ∀ j, W1.frozen? ⟨w.heap.size, j, none⟩ = false := fun j => by rw [hW1]; exact World.frozen?_alloc_at (w := w.drew) ROW _ w.heap.size j rfl
  have hOb : ∀ j v, w.cell? ⟨b, j, none⟩ = some v → W1.cell? ⟨b, j, none⟩ = some v := fun j v h => by rw [hW1, World.cell?_alloc_past (w := w.drew) _ b j hbw]; exact h
  have hOv : ∀ j v, news[j]? = some v → W1.cell? ⟨gv, j, none⟩ = some v := fun j v h => by
    rw [hW1, World.cell?_alloc_past (w := w.drew) _ gv j hvw]; exact (row_cell hgv j).trans (by simpa using h)
  have hcpA : ∀ (W : World), (∀ x, W.cell? x = W1.cell? x) → (∀ x, W.frozen? x = W1.frozen? x) → ∀ ty dc, (Builtin.copy_ #[51, 51] ty #[.slice (some ⟨w.heap.size, i * 3, none⟩) (n + 1 - i) dc, .slice (some ⟨gv, 0, none⟩) 1 1]).run Tryz.prog W = .ok (goInt 1) (W.setCells w.heap.size (i * 3) news) := fun W hWc hWf ty dc =>
    run_copyK W _ _ ty 96 3 w.heap.size (i * 3) (n + 1 - i) dc ⟨gv, 0, none⟩ 1 1 1 news Tryz.underlying51 hsi (by simp only [Nat.min_def]; split <;> omega) (by rw [hnl])
      (fun j v hj => by rw [addr_add, hWc, Nat.zero_add]; exact hOv j v hj)
      (fun j hj => by rw [hWc]; exact hN _ (by omega)) (fun j hj => by rw [hWf]; exact hNf _) h2
  have hGn : n + 1 ≤ G := by rw [hG]; exact grownCap_ge w _ _ _
  have hG63 : G ≤ 9223372036854775807 := by
    have := grownCap_le_maxLen w (n + 1) c 96 (by unfold maxLen; omega)
    rw [← hG] at this
    unfold maxLen at this
    omega
  have hGi : ¬ (G = i) := by omega
  have hGim : ¬ (G = i + 1) := by omega
  have hci : ¬ (c = i) := by omega
  have hbN : b ≠ w.heap.size := by omega
  have hcpB : ∀ (W : World), (∀ x, W.cell? x = (W1.setCells w.heap.size (i * 3) news).cell? x) → (∀ x, W.frozen? x = (W1.setCells w.heap.size (i * 3) news).frozen? x) → ∀ ty dc sc, (Builtin.copy_ #[51, 51] ty #[.slice (some ⟨w.heap.size, (i + 1) * 3, none⟩) (n - i) dc, .slice (some ⟨b, i * 3, none⟩) (n - i) sc]).run Tryz.prog W = .ok (goInt (n - i : Nat)) (W.setCells w.heap.size ((i + 1) * 3) (xs.drop (i * 3))) := fun W hWc hWf ty dc sc =>
    run_copyK W _ _ ty 96 3 w.heap.size ((i + 1) * 3) (n - i) dc ⟨b, i * 3, none⟩ (n - i) sc (n - i) (xs.drop (i * 3)) Tryz.underlying51 hsi (by simp only [Nat.min_def]; split <;> omega) hdl
      (fun j v hj => by
        rw [addr_add, hWc, World.cell?_setCells_out _ _ _ _ _ (fun h _ => absurd h hbN)]
        exact hOb _ v (hcellx (i * 3 + j) v (by rwa [List.getElem?_drop] at hj)))
      (fun j hj => by rw [hWc]; exact isSome_setCells _ _ _ _ (fun t ht => hN _ (by omega)) _ (hN _ (by omega)))
      (fun j hj => by rw [hWf, World.frozen?_setCells]; exact hNf _) (fun v hv => h1 v (List.mem_of_mem_drop hv))
  subst hW1
  have hE1 : ∀ x, ((w.alloc (.cells ROW 96)).drew).cell? x = (w.drew.alloc (.cells ROW 96)).cell? x := fun x => rfl
  have hE2 : ∀ x, ((w.alloc (.cells ROW 96)).drew).frozen? x = (w.drew.alloc (.cells ROW 96)).frozen? x := fun x => rfl
  have hF1 : ∀ x, (((w.alloc (.cells ROW 96)).drew.setCells w.heap.size (i * 3) news).drew).cell? x = ((w.drew.alloc (.cells ROW 96)).setCells w.heap.size (i * 3) news).cell? x := fun x => rfl
  have hF2 : ∀ x, (((w.alloc (.cells ROW 96)).drew.setCells w.heap.size (i * 3) news).drew).frozen? x = ((w.drew.alloc (.cells ROW 96)).setCells w.heap.size (i * 3) news).frozen? x := fun x => rfl
  have hw1 : IntKind.i64.wrap ((i : Int) + 1) = (i : Int) + 1 := (Go.IntWalk.i64_left _).trans (Go.IntWalk.wrap64_in _ (by omega))
  have hw2 : IntKind.i64.wrap ((n : Int) + 1 - (i : Int)) = (n : Int) + 1 - (i : Int) := (Go.IntWalk.i64_left _).trans (Go.IntWalk.wrap64_in _ (by omega))
  have hb1 : (0 : Int) ≤ (i : Int) + 1 := by omega
  have hin : i ≤ n := by omega
  have hb2 : (i : Int) + 1 ≤ (n : Int) + 1 := by omega
  have hb3 : (i : Int) ≤ (n : Int) := by omega
  have htn : ((i : Int) + 1).toNat = i + 1 := by omega
  have mixed : Tryz.prog.follows Departure.mixedOrders = true := by kernel_rfl
  clear hkk hik hold hROW hG hRl hown hrow hgv hcellx hOb hOv
  go_enter Tryz.func105, Tryz.ntmps105
  go_wp2_with (first
    | (at_builtin; refine Lib.wpList_append_run _ rfl _ _ _ _ rfl _ _ rfl rfl _ _ (hrz _) ?_)
    | (at_builtin; refine wpList_copy_runI _ rfl _ _ 51 51 rfl _ _ rfl rfl (hcpA _ hE1 hE2 _ _) ?_)
    | (at_builtin; refine wpList_copy_runI _ rfl _ _ 51 51 rfl _ _ rfl rfl (hcpB _ (fun _ => rfl) (fun _ => rfl) _ _ _) ?_)
    | fail)
  go_region_law_o (refine step_copy_runI rfl _ _ 51 51 rfl (.slice (some ⟨w.heap.size, (i + 1) * 3, none⟩) (n - i) (G - (i + 1))) (.slice (some ⟨b, i * 3, none⟩) (n - i) (c - i)) (by simp [Act.eval, Act.put]) (by simp [Act.eval, Act.put]) (hcpB _ hF1 hF2 3 (G - (i + 1)) (c - i)) ?_)
  go_wp2
  go_ret
  exact ⟨rfl, rfl⟩

theorem grown_newM {w W W' : World} {r : Option Nat} {N : Nat} (h : w.grownBy W r) (k : W.grownBy W' (some N)) (hN : w.heap.size ≤ N) : w.grownBy W' r :=
  ⟨k.os.trans h.os, k.tape.trans h.tape, k.output.trans h.output, Nat.le_trans h.size k.size, fun i hi hne => (k.block i (Nat.lt_of_lt_of_le hi h.size) (fun e => by have := Option.some.inj e; omega)).trans (h.block i hi hne)⟩

theorem own_form9M {w : World} {B e k n : Nat} {v : Value} {xs : List Value} (h : w.ownsRow B e k v n xs) (hn : 0 < n) : ∃ g cap, v = .slice (some ⟨g, 0, none⟩) n cap := by
  rcases h.2 with ⟨_, h0⟩ | ⟨g, cap, _, rfl, _⟩
  · omega
  · exact ⟨g, cap, rfl⟩
/-- At whatever place. -/
theorem insM_any (n i : Nat) (hi : i ≤ n) : InsM n i := by
  by_cases he : i = n
  · subst he; exact insM_end i
  · intro B v xs news w gv hown hnl hgv hne h1 hB hn
    obtain ⟨b, c, rfl⟩ := own_form9M hown (by omega)
    have h2 : ∀ u ∈ xs, u.oneCell' = true := fun u hu => h1 u (List.mem_append_left _ hu)
    have h3 : ∀ u ∈ news, u.oneCell' = true := fun u hu => h1 u (List.mem_append_right _ hu)
    have hnb : gv ≠ b := fun e => hne (by rw [e]; rfl)
    have hsz := own_size hown
    by_cases hroom : n + 1 ≤ c
    · refine (insM_shift B b n c i gv xs news w hown (by omega) hroom hnl hgv hnb h2 h3 hn).mono ?_
      rintro e w' ⟨rfl, rfl⟩
      have hm := own_mid Tryz.prog (i := i) hown.drew (by omega) hnl hroom h2 h3
      exact ⟨_, rfl, hm.1, grownBy_drew hm.2, .inl rfl⟩
    · refine (insM_grow B b n c i gv xs news w hown (by omega) (by omega) hnl hgv h2 h3 hn).mono ?_
      rintro e w' ⟨rfl, rfl⟩
      have hxl := hown.1
      obtain ⟨G, hG⟩ : ∃ G, G = grownCap w (n + 1) c 96 := ⟨_, rfl⟩
      have hGn : n + 1 ≤ G := by rw [hG]; exact grownCap_ge w _ _ _
      have hGm : G ≤ maxLen := by rw [hG]; exact grownCap_le_maxLen w (n + 1) c 96 (by unfold maxLen; omega)
      rw [← hG]
      obtain ⟨ROW, hROW⟩ : ∃ ROW : Array Value, ROW = (xs.take (i * 3)).toArray ++ Builtin.zeroCells (Value.cells (.agg #[.string ⟨#[]⟩, .int .i64 0, .slice none 0 0])) (n + 1 - i) ++ Builtin.zeroCells (Value.cells (.agg #[.string ⟨#[]⟩, .int .i64 0, .slice none 0 0])) (G - (n + 1)) := ⟨_, rfl⟩
      rw [← hROW]
      have hRs : ROW.size = G * 3 := by
        rw [hROW]
        simp [Builtin.zeroCells, Value.cells, hxl]
        omega
      have htl : (xs.take (i * 3)).length = i * 3 := by rw [List.length_take, hxl]; omega
      have hp : (w.alloc (.cells ROW 96)).ownsRow B 96 3 (.slice (some ⟨w.heap.size, 0, none⟩) i G) i (xs.take (i * 3)) :=
        ⟨htl, .inr ⟨w.heap.size, G, ROW, rfl, hB, heap_alloc_new w _, by omega, hGm, hRs, by
          rw [hROW]
          simp only [Array.toList_append, List.append_assoc]
          rw [List.take_append_of_le_length (by rw [htl]; exact Nat.le_refl _), List.take_of_length_le (by rw [htl]; exact Nat.le_refl _)]⟩⟩
      have q1 := own_lay Tryz.prog (m := 1) hp.drew (by rw [hnl]) (by omega) h3
      have hdl : (xs.drop (i * 3)).length = (n - i) * 3 := by rw [List.length_drop, hxl]; omega
      have hcc : i + 1 + (n - i) ≤ G := by omega
      have q2 := own_lay Tryz.prog (m := n - i) q1.1.drew hdl hcc (fun u hu => h2 u (List.mem_of_mem_drop hu))
      have e1 : i + 1 + (n - i) = n + 1 := by omega
      rw [e1] at q2
      refine ⟨_, rfl, q2.1, ?_, .inr ⟨_, rfl, Nat.le_refl _⟩⟩
      have g1 := World.grownBy_alloc w (.cells ROW 96) (some b)
      have g2 := grown_newM g1 (grownBy_drew q1.2) (Nat.le_refl _)
      exact grown_newM g2 (grownBy_drew q2.2) (Nat.le_refl _)

end Go.Proofs.YtjfikkjaifdkiaaGreatDoor

namespace Go.Proofs.YtjfikkjaifdkiaaGreatDoor
open Go.RowKit

theorem insOk (n i : Nat) (hi : i ≤ n) : InsOk n i := fun B v xs w gv a b c h1 h2 h3 h4 h5 h6 => insM_any n i hi B v xs [a, b, c] w gv h1 rfl h2 h3 h4 h5 h6
theorem mput9_any (v bv : Value) (ps : List (Mac × Value)) (m : Mac) (w : World) (hl : RdM w v ps) (hb : Rt w bv m.2.2) (hbl : m.2.2.length ≤ 1000000) (hnl : m.1.length ≤ 1000000000) (hlen : ps.length ≤ 100000) (hs : Sorted (ps.map fun p => p.1.1)) :
    Calls Tryz.prog 74 #[v, .agg #[.string (S m.1), .int .i64 m.2.1, bv]] w fun e w' => ∃ v' qs, e = .returned (.tuple #[v', .int .i64 (putM (ps.map Prod.fst) m).2]) ∧ qs.map Prod.fst = (putM (ps.map Prod.fst) m).1 ∧ OwnM w' w.heap.size v' qs ∧ Frs w.heap.size qs ∧ Below w.heap.size w w' :=
  put9_any v bv ps m w hl hb hbl hnl hlen hs fun _ => insOk _ _ (by have := lb_le (ps.map fun p => p.1.1) m.1; simpa using this)

theorem mput_any (v bv : Value) (ps : List (Mac × Value)) (m : Mac) (w : World) (hl : RdM w v ps) (hb : Rt w bv m.2.2) (hbl : m.2.2.length ≤ 1000000) (hnl : m.1.length ≤ 1000000000) (hlen : ps.length ≤ 100000) (hs : Sorted (ps.map fun p => p.1.1)) :
    Calls Tryz.prog 74 #[v, .agg #[.string (S m.1), .int .i64 m.2.1, bv]] w fun e w' => ∃ v' qs, e = .returned (.tuple #[v', .int .i64 (putM (ps.map Prod.fst) m).2]) ∧ qs.map Prod.fst = (putM (ps.map Prod.fst) m).1 ∧ OwnM w' w.heap.size v' qs ∧ Below w.heap.size w w' :=
  put_any v bv ps m w hl hb hbl hnl hlen hs fun _ => insOk _ _ (by have := lb_le (ps.map fun p => p.1.1) m.1; simpa using this)

end Go.Proofs.YtjfikkjaifdkiaaGreatDoor

namespace Go.Proofs.YtjfikkjaifdkiaaGreatDoor
open Go.RowKit

set_option maxRecDepth 20000 in
set_option maxHeartbeats 3200000 in
/-- The reference's 'Args', where the place is one, and as many are asked for as may be. -/
theorem refArgsO_in (v : Value) (l : List Lx.Tok) (p n : Nat) (w : World) (hl : Rt w v l) (hlen : l.length ≤ 1000000000) (hp : p ≤ l.length) (hn : n ≤ 9) :
    Calls Tryz.prog 89 #[v, .int .i64 (p : Int), .int .i64 (n : Int)] w fun e w' => ∃ v', e = .returned (.tuple #[v', .int .i64 (ares p (Mx.args n (l.drop p))).2.1, .int .i64 (ares p (Mx.args n (l.drop p))).2.2]) ∧ Oll w' w.heap.size 35 v' (ares p (Mx.args n (l.drop p))).1 ∧ Below w.heap.size w w' := by
  obtain ⟨a0, c0, rfl⟩ := hl.shape
  have hcap := Rd.cap hl
  have A := Lib.hid hl
  clear hl
  have e1 : decide ((p : Int) < 0) = false := by simp
  have e2 : decide (l.length < p) = false := by simp; omega
  have e3 : decide ((n : Int) < 0) = false := by simp
  have e4 : decide (9 < (n : Int)) = false := by simp; omega
  go_enter Tryz.func89, Tryz.ntmps89
  go_wp2_with fail
  go_loopw [1, 9, 10] (fun at_ out i wr => ∃ (k q : Nat) (acc : List (List Lx.Tok)), at_ = .int .i64 q ∧ i = .int .i64 k ∧ k ≤ n ∧ p ≤ q ∧ q ≤ l.length ∧ acc.length = k ∧ Oll wr w.heap.size 35 out acc ∧ Below w.heap.size w wr ∧ Hid (Mx.args n (l.drop p) = (Mx.args (n - k) (l.drop q)).map fun x => (acc ++ x.1, q - p + x.2))) (fun _ _ i _ => n - (intOf i).toNat)
  case atStart => exact ⟨0, p, [], rfl, rfl, Nat.zero_le _, Nat.le_refl _, hp, rfl, Oll.made _ _ _ (Nat.le_refl _), (Below.refl _ _).alloc (Nat.le_refl _) _, by simp [Hid]⟩
  case round =>
    obtain ⟨k, q, acc, rfl, rfl, hk, hpq, hq, hacc, hown, hbw, HC⟩ := hrel
    have hsz := hbw.size
    by_cases hkn : k < n
    · go_wp2_with fail
      go_loopw [1] (fun at_ wr2 => ∃ r : Nat, at_ = .int .i64 r ∧ q ≤ r ∧ r ≤ l.length ∧ Hid (q + Mx.spaces (l.drop q) = r + Mx.spaces (l.drop r)) ∧ Below wr.heap.size wr wr2) (fun at_ _ => l.length - (intOf at_).toNat)
      case atStart => exact ⟨q, rfl, Nat.le_refl _, hq, by simp [Hid], Below.refl _ _⟩
      case round =>
        obtain ⟨r, rfl, hqr, hr, HS, hb2⟩ := hrel
        by_cases hrl : r < l.length
        · obtain ⟨b, o, hb, c20, c21⟩ := (Rt.below' (Rt.below' A.out hbw) hb2).at hrl
          subst hb
          cases h2 : (l[r].1 == 2)
          · have hsr : r = q + Mx.spaces (l.drop q) := by rw [HS.out, spaces_stop hrl (by simpa using h2)]; rfl
            obtain ⟨n', hn'⟩ : ∃ n', n - k = n' + 1 := ⟨n - k - 1, by omega⟩
            have HC1 := HC.out
            rw [hn'] at HC1
            cases hG : Mx.group (l.drop r) with
            | none =>
              rw [args_none hsr hG] at HC1
              have HN := Lib.hid HC1
              have HG := Lib.hid hG
              clear HC1 hG hsr
              have hr3 := Rt.below' (Rt.below' A.out hbw) hb2
              go_wp2_with fail
              (with_reducible refine (refGroup_in _ l r _ hr3 hlen hr).mono ?_); rintro e w4 ⟨rfl, b4⟩
              rw [HG.out]
              go_wp2_with fail
              go_ret3
              exact ⟨_, ret_three (by rw [HN.out]; rfl) (by rw [HN.out]; rfl), by rw [HN.out]; exact Oll.nil _ _ _, (hbw.trans (hb2.mono hsz)).trans (b4.mono (by have := hb2.size; omega))⟩
            | some g =>
              have hgl := Mx.group_le hG
              rw [List.length_drop] at hgl
              obtain ⟨t, ht⟩ : ∃ t, r + g = t + 1 := ⟨r + g - 1, by omega⟩
              have hres : gres r (some g) = (((t : Int) + 1), 0) := by simp only [gres]; rw [Prod.mk.injEq]; exact ⟨by omega, rfl⟩
              have HN := Lib.hid (args_next hpq hsr hG HC1)
              rw [ht] at HN
              have HG := Lib.hid hG
              have HRES := Lib.hid hres
              have hs2 := hb2.size
              clear HC1 hG hsr hres
              have hr3 := Rt.below' (Rt.below' A.out hbw) hb2
              have H3 := Lib.hid hr3
              go_wp2_with fail
              (with_reducible refine (refGroup_in _ l r _ hr3 hlen hr).mono ?_); rintro e w4 ⟨rfl, b4⟩
              clear hr3
              rw [HG.out, HRES.out]
              have hs4 := b4.size
              obtain ⟨part, hpt⟩ : ∃ part, part = (l.take t).drop (r + 1) := ⟨_, rfl⟩
              have hpart : Rt w4 (.slice (some ⟨b, o + (r + 1) * 2, none⟩) (t - (r + 1)) (c0 - (r + 1))) part := by
                rw [hpt]; exact Rt.part (Rt.below' H3.out b4) rfl (by omega) (by omega) _ (by omega)
              have hplen : part.length ≤ 1000000000 := by rw [hpt]; simp; omega
              have HP := Lib.hid hpt
              clear hpt
              have hown5 := (hown.below' hb2).below' b4
              have hun := hown.under
              have hbs := (hb2.mono hsz).trans (b4.mono (by omega : w.heap.size ≤ wr.heap.size))
              have HPART := Lib.hid hpart
              clear hpart
              go_wp2_with (first
                | (at_builtin; refine wp_app_all tyRef rfl _ _ rfl w4.heap.size (World.ownsRow_made w4 #[] 0 (Nat.le_refl _) (Nat.zero_le _) (by simp)) (Rt.below' HPART.out ((Below.refl _ _).alloc (Nat.le_refl _) _)) rfl rfl tcs_one (by omega) (by omega) (by simp) ?_; intro cv w5 hcv b5 hg5; obtain ⟨a1, c1, rfl⟩ := own_shape hcv; rw [Nat.zero_add, List.nil_append] at hcv; rw [Nat.zero_add]; have b5' : Below w4.heap.size w4 w5 := ((Below.refl _ _).alloc (Nat.le_refl _) _).trans b5; have hs5 := b5'.size; have hown6 := hown5.below' b5'; have hcr : Rt w5 (.slice a1 part.length c1) part := own_rd hcv; have hsep : ∀ b, (Value.slice a1 part.length c1).ownBlock = some b → b < w5.heap.size ∧ u9.ownBlock ≠ some b ∧ w.heap.size ≤ b := fun b hb => ⟨(hcv.lt b hb).2, fun e => by have h1 := hun b e; have h2 := (hcv.lt b hb).1; omega, by have h2 := (hcv.lt b hb).1; omega⟩; have hbs5 := hbs.trans (b5'.mono (by omega : w.heap.size ≤ w4.heap.size)))
                | (at_builtin; refine wp_oll tyLr rfl _ _ rfl w.heap.size hown6 hcr hsep rfl rfl rfl rfl (by omega) (by omega) (by omega) ?_; intro v6 w6 hown7 b6))
              go_roundw
              case rel => exact ⟨k + 1, t + 1, _, by go_num, by go_num, by omega, by omega, by omega, by simp [hacc], hown7, (hbw.trans hbs5).trans b6, Lib.hid (by rw [show n - (k + 1) = n' by omega, HP.out]; exact HN.out)⟩
              case measure => simp [intOf]; omega
          · have HN := Lib.hid (HS.out.trans (show r + Mx.spaces (l.drop r) = r + 1 + Mx.spaces (l.drop (r + 1)) by rw [spaces_step hrl (by simpa using h2)]; omega))
            go_wp2_with fail
            go_roundw
            case rel => exact ⟨r + 1, by go_num, by omega, by omega, HN, hb2⟩
            case measure => simp [intOf]; omega
        · obtain rfl : r = l.length := by omega
          have hsr : l.length = q + Mx.spaces (l.drop q) := by rw [HS.out, spaces_end (Nat.le_refl _)]; rfl
          obtain ⟨n', hn'⟩ : ∃ n', n - k = n' + 1 := ⟨n - k - 1, by omega⟩
          have HC1 := HC.out
          rw [hn'] at HC1
          have hG : Mx.group (l.drop l.length) = none := by rw [List.drop_length]; rfl
          rw [args_none hsr hG] at HC1
          have HN := Lib.hid HC1
          have HG := Lib.hid hG
          clear HC1 hG hsr
          have hr3 := Rt.below' (Rt.below' A.out hbw) hb2
          go_wp2_with fail
          (with_reducible refine (refGroup_in _ l l.length _ hr3 hlen hr).mono ?_); rintro e w4 ⟨rfl, b4⟩
          rw [HG.out]
          go_wp2_with fail
          go_ret3
          exact ⟨_, ret_three (by rw [HN.out]; rfl) (by rw [HN.out]; rfl), by rw [HN.out]; exact Oll.nil _ _ _, (hbw.trans (hb2.mono hsz)).trans (b4.mono (by have := hb2.size; omega))⟩
    · obtain rfl : k = n := by omega
      have HN := Lib.hid (HC.out.trans (show _ = some (acc, q - p) by rw [Nat.sub_self, Mx.args]; simp))
      go_wp2_with fail
      go_ret3
      exact ⟨_, ret_three (by rw [HN.out]; simp only [ares]; omega) (by rw [HN.out]; rfl), by rw [HN.out]; exact hown, hbw⟩

theorem refArgs_in (v : Value) (l : List Lx.Tok) (p n : Nat) (w : World) (hl : Rt w v l) (hlen : l.length ≤ 1000000000) (hp : p ≤ l.length) (hn : n ≤ 9) :
    Calls Tryz.prog 89 #[v, .int .i64 (p : Int), .int .i64 (n : Int)] w fun e w' => ∃ v', e = .returned (.tuple #[v', .int .i64 (ares p (Mx.args n (l.drop p))).2.1, .int .i64 (ares p (Mx.args n (l.drop p))).2.2]) ∧ Rts w' v' (ares p (Mx.args n (l.drop p))).1 ∧ Below w.heap.size w w' :=
  (refArgsO_in v l p n w hl hlen hp hn).mono fun _ _ ⟨v', h1, h2, h3⟩ => ⟨v', h1, h2.rts, h3⟩
end Go.Proofs.YtjfikkjaifdkiaaGreatDoor

namespace Go.Proofs.YtjfikkjaifdkiaaGreatDoor
open Go.RowKit

/-- 'Args' at any place, for any number. -/
def argsAt (l : List Lx.Tok) (p n : Int) : List (List Lx.Tok) × Int × Int :=
  if p < 0 ∨ (l.length : Int) < p ∨ n < 0 ∨ 9 < n then ([], 0, 1) else ares p.toNat (Mx.args n.toNat (l.drop p.toNat))

set_option maxHeartbeats 800000 in
/-- Any place. -/
theorem group_any (v : Value) (l : List Lx.Tok) (p : Int) (w : World) (hl : Rt w v l) (hlen : l.length ≤ 1000000000) :
    Calls Tryz.prog 118 #[v, .int .i64 p] w fun e w' => e = .returned (.tuple #[.int .i64 (Mx.groupAt l p).1, .int .i64 (Mx.groupAt l p).2]) ∧ Below w.heap.size w w' := by
  by_cases h1 : p < 0
  · have hg : Mx.groupAt l p = (0, 1) := by rw [Mx.groupAt, if_pos (.inl h1)]
    rw [hg]
    obtain ⟨a0, c0, rfl⟩ := hl.shape
    clear hl
    go_enter Tryz.func118, Tryz.ntmps118
    go_wp2_with fail
    go_ret2
    exact ⟨rfl, Below.refl _ _⟩
  · by_cases h2 : (l.length : Int) < p
    · have hg : Mx.groupAt l p = (0, 1) := by rw [Mx.groupAt, if_pos (.inr h2)]
      rw [hg]
      obtain ⟨a0, c0, rfl⟩ := hl.shape
      clear hl
      go_enter Tryz.func118, Tryz.ntmps118
      go_wp2_with fail
      go_ret2
      exact ⟨rfl, Below.refl _ _⟩
    · obtain ⟨q, rfl⟩ := Int.eq_ofNat_of_zero_le (by omega : 0 ≤ p)
      have hq : q ≤ l.length := by omega
      have hg : Mx.groupAt l (q : Int) = gres q (Mx.group (l.drop q)) := groupAt_in l q hq
      refine (group_in v l q w hl hlen hq).mono fun e w' ⟨h3, h4⟩ => ⟨?_, h4⟩
      rw [h3, ← hg]

set_option maxHeartbeats 800000 in
/-- Any place. -/
theorem refGroup_any (v : Value) (l : List Lx.Tok) (p : Int) (w : World) (hl : Rt w v l) (hlen : l.length ≤ 1000000000) :
    Calls Tryz.prog 114 #[v, .int .i64 p] w fun e w' => e = .returned (.tuple #[.int .i64 (Mx.groupAt l p).1, .int .i64 (Mx.groupAt l p).2]) ∧ Below w.heap.size w w' := by
  by_cases h1 : p < 0
  · have hg : Mx.groupAt l p = (0, 1) := by rw [Mx.groupAt, if_pos (.inl h1)]
    rw [hg]
    obtain ⟨a0, c0, rfl⟩ := hl.shape
    clear hl
    go_enter Tryz.func114, Tryz.ntmps114
    go_wp2_with fail
    go_ret2
    exact ⟨rfl, Below.refl _ _⟩
  · by_cases h2 : (l.length : Int) < p
    · have hg : Mx.groupAt l p = (0, 1) := by rw [Mx.groupAt, if_pos (.inr h2)]
      rw [hg]
      obtain ⟨a0, c0, rfl⟩ := hl.shape
      clear hl
      go_enter Tryz.func114, Tryz.ntmps114
      go_wp2_with fail
      go_ret2
      exact ⟨rfl, Below.refl _ _⟩
    · obtain ⟨q, rfl⟩ := Int.eq_ofNat_of_zero_le (by omega : 0 ≤ p)
      have hq : q ≤ l.length := by omega
      have hg : Mx.groupAt l (q : Int) = gres q (Mx.group (l.drop q)) := groupAt_in l q hq
      refine (refGroup_in v l q w hl hlen hq).mono fun e w' ⟨h3, h4⟩ => ⟨?_, h4⟩
      rw [h3, ← hg]

set_option maxHeartbeats 1600000 in
/-- Any place, any number. -/
theorem argsO_any (v : Value) (l : List Lx.Tok) (p n : Int) (w : World) (hl : Rt w v l) (hlen : l.length ≤ 1000000000) :
    Calls Tryz.prog 101 #[v, .int .i64 p, .int .i64 n] w fun e w' => ∃ v', e = .returned (.tuple #[v', .int .i64 (argsAt l p n).2.1, .int .i64 (argsAt l p n).2.2]) ∧ Oll w' w.heap.size 27 v' (argsAt l p n).1 ∧ Below w.heap.size w w' := by
  by_cases hbad : p < 0 ∨ (l.length : Int) < p ∨ n < 0 ∨ 9 < n
  · have hg : argsAt l p n = ([], 0, 1) := by rw [argsAt, if_pos hbad]
    rw [hg]
    obtain ⟨a0, c0, rfl⟩ := hl.shape
    clear hl
    by_cases h1 : p < 0
    · clear hbad
      go_enter Tryz.func101, Tryz.ntmps101
      go_wp2_with fail
      go_ret3
      exact ⟨_, rfl, Oll.nil _ _ _, Below.refl _ _⟩
    · by_cases h2 : (l.length : Int) < p
      · clear hbad
        go_enter Tryz.func101, Tryz.ntmps101
        go_wp2_with fail
        go_ret3
        exact ⟨_, rfl, Oll.nil _ _ _, Below.refl _ _⟩
      · by_cases h3 : n < 0
        · clear hbad
          go_enter Tryz.func101, Tryz.ntmps101
          go_wp2_with fail
          go_ret3
          exact ⟨_, rfl, Oll.nil _ _ _, Below.refl _ _⟩
        · have h4 : 9 < n := by omega
          clear hbad
          go_enter Tryz.func101, Tryz.ntmps101
          go_wp2_with fail
          go_ret3
          exact ⟨_, rfl, Oll.nil _ _ _, Below.refl _ _⟩
  · obtain ⟨q, rfl⟩ := Int.eq_ofNat_of_zero_le (by omega : 0 ≤ p)
    obtain ⟨m, rfl⟩ := Int.eq_ofNat_of_zero_le (by omega : 0 ≤ n)
    have hg : argsAt l (q : Int) (m : Int) = ares q (Mx.args m (l.drop q)) := by rw [argsAt, if_neg hbad]; rfl
    rw [hg]
    exact argsO_in v l q m w hl hlen (by omega) (by omega)

theorem args_any (v : Value) (l : List Lx.Tok) (p n : Int) (w : World) (hl : Rt w v l) (hlen : l.length ≤ 1000000000) :
    Calls Tryz.prog 101 #[v, .int .i64 p, .int .i64 n] w fun e w' => ∃ v', e = .returned (.tuple #[v', .int .i64 (argsAt l p n).2.1, .int .i64 (argsAt l p n).2.2]) ∧ Rts w' v' (argsAt l p n).1 ∧ Below w.heap.size w w' :=
  (argsO_any v l p n w hl hlen).mono fun _ _ ⟨v', h1, h2, h3⟩ => ⟨v', h1, h2.rts, h3⟩

set_option maxHeartbeats 1600000 in
/-- Any place, any number. -/
theorem refArgsO_any (v : Value) (l : List Lx.Tok) (p n : Int) (w : World) (hl : Rt w v l) (hlen : l.length ≤ 1000000000) :
    Calls Tryz.prog 89 #[v, .int .i64 p, .int .i64 n] w fun e w' => ∃ v', e = .returned (.tuple #[v', .int .i64 (argsAt l p n).2.1, .int .i64 (argsAt l p n).2.2]) ∧ Oll w' w.heap.size 35 v' (argsAt l p n).1 ∧ Below w.heap.size w w' := by
  by_cases hbad : p < 0 ∨ (l.length : Int) < p ∨ n < 0 ∨ 9 < n
  · have hg : argsAt l p n = ([], 0, 1) := by rw [argsAt, if_pos hbad]
    rw [hg]
    obtain ⟨a0, c0, rfl⟩ := hl.shape
    clear hl
    by_cases h1 : p < 0
    · clear hbad
      go_enter Tryz.func89, Tryz.ntmps89
      go_wp2_with fail
      go_ret3
      exact ⟨_, rfl, Oll.nil _ _ _, Below.refl _ _⟩
    · by_cases h2 : (l.length : Int) < p
      · clear hbad
        go_enter Tryz.func89, Tryz.ntmps89
        go_wp2_with fail
        go_ret3
        exact ⟨_, rfl, Oll.nil _ _ _, Below.refl _ _⟩
      · by_cases h3 : n < 0
        · clear hbad
          go_enter Tryz.func89, Tryz.ntmps89
          go_wp2_with fail
          go_ret3
          exact ⟨_, rfl, Oll.nil _ _ _, Below.refl _ _⟩
        · have h4 : 9 < n := by omega
          clear hbad
          go_enter Tryz.func89, Tryz.ntmps89
          go_wp2_with fail
          go_ret3
          exact ⟨_, rfl, Oll.nil _ _ _, Below.refl _ _⟩
  · obtain ⟨q, rfl⟩ := Int.eq_ofNat_of_zero_le (by omega : 0 ≤ p)
    obtain ⟨m, rfl⟩ := Int.eq_ofNat_of_zero_le (by omega : 0 ≤ n)
    have hg : argsAt l (q : Int) (m : Int) = ares q (Mx.args m (l.drop q)) := by rw [argsAt, if_neg hbad]; rfl
    rw [hg]
    exact refArgsO_in v l q m w hl hlen (by omega) (by omega)

theorem refArgs_any (v : Value) (l : List Lx.Tok) (p n : Int) (w : World) (hl : Rt w v l) (hlen : l.length ≤ 1000000000) :
    Calls Tryz.prog 89 #[v, .int .i64 p, .int .i64 n] w fun e w' => ∃ v', e = .returned (.tuple #[v', .int .i64 (argsAt l p n).2.1, .int .i64 (argsAt l p n).2.2]) ∧ Rts w' v' (argsAt l p n).1 ∧ Below w.heap.size w w' :=
  (refArgsO_any v l p n w hl hlen).mono fun _ _ ⟨v', h1, h2, h3⟩ => ⟨v', h1, h2.rts, h3⟩
end Go.Proofs.YtjfikkjaifdkiaaGreatDoor

namespace Go.Proofs.YtjfikkjaifdkiaaGreatDoor
open Go.RowKit

def wordOf (l : List Lx.Tok) : List UInt8 × Bool := match l with | [t] => if t.1 = 1 then (t.2, true) else ([], false) | _ => ([], false)

set_option maxHeartbeats 400000 in
/-- 'Word': of one word alone. -/
theorem macWord_any (v : Value) (l : List Lx.Tok) (w : World) (hl : Rt w v l) :
    Calls Tryz.prog 102 #[v] w fun e w' => e = .returned (.tuple #[.string (S (wordOf l).1), .bool (wordOf l).2]) ∧ Below w.heap.size w w' := by
  obtain ⟨a0, c0, rfl⟩ := hl.shape
  by_cases h1 : l.length = 1
  · obtain ⟨b1, o1, rfl, c10, c11⟩ := hl.at (i := 0) (by omega)
    obtain ⟨⟨z, s⟩, rfl⟩ := List.length_eq_one_iff.1 h1
    clear hl
    have c10' : w.cell? ⟨b1, o1, none⟩ = some (.int .i64 z) := c10
    have c11' : w.cell? ⟨b1, o1 + 1, none⟩ = some (.string (S s)) := by have := c11; rwa [Nat.zero_mul, Nat.add_zero] at this
    clear c10
    cases hz : (z == 1)
    · have hw : wordOf [(z, s)] = ([], false) := if_neg (by simpa using hz)
      rw [hw]
      clear hw
      go_enter Tryz.func102, Tryz.ntmps102
      simp only [S_lit]
      go_wp2_with fail
      (with_reducible refine (of1_any (z, s) 1 _ _ rfl).mono ?_); rintro e w2 ⟨rfl, b2⟩
      go_wp2_with fail
      go_ret2
      exact ⟨rfl, b2⟩
    · have hw : wordOf [(z, s)] = (s, true) := if_pos (by simpa using hz)
      rw [hw]
      clear hw
      go_enter Tryz.func102, Tryz.ntmps102
      simp only [S_lit]
      go_wp2_with fail
      (with_reducible refine (of1_any (z, s) 1 _ _ rfl).mono ?_); rintro e w2 ⟨rfl, b2⟩
      have c2 := (b2.block b1 (World.block_lt_of_cell? w _ c11'))
      have c21 := (World.cell?_of_block (a := ⟨b1, o1 + 1, none⟩) c2).trans c11'
      go_wp2_with fail
      go_ret2
      exact ⟨rfl, b2⟩
  · have hw : wordOf l = ([], false) := by
      match l, h1 with
      | [], _ => rfl
      | a :: b :: r, _ => rfl
    rw [hw]
    have hb : ((l.length : Int) != 1) = true := by simp [bne]; omega
    clear hl hw
    go_enter Tryz.func102, Tryz.ntmps102
    simp only [S_lit]
    go_wp2_with fail
    go_ret2
    exact ⟨rfl, Below.refl _ _⟩

set_option maxHeartbeats 400000 in
/-- The reference's 'Word'. -/
theorem refWord_one (v : Value) (l : List Lx.Tok) (w : World) (hl : Rt w v l) :
    Calls Tryz.prog 87 #[v] w fun e w' => e = .returned (.tuple #[.string (S (wordOf l).1), .bool (wordOf l).2]) ∧ w' = w := by
  obtain ⟨a0, c0, rfl⟩ := hl.shape
  by_cases h1 : l.length = 1
  · obtain ⟨b1, o1, rfl, c10, c11⟩ := hl.at (i := 0) (by omega)
    obtain ⟨⟨z, s⟩, rfl⟩ := List.length_eq_one_iff.1 h1
    clear hl
    have c10' : w.cell? ⟨b1, o1, none⟩ = some (.int .i64 z) := c10
    have c11' : w.cell? ⟨b1, o1 + 1, none⟩ = some (.string (S s)) := by have := c11; rwa [Nat.zero_mul, Nat.add_zero] at this
    clear c10
    cases hz : (z != 1)
    · have hw : wordOf [(z, s)] = (s, true) := if_pos (by simpa [bne] using hz)
      rw [hw]
      clear hw
      go_enter Tryz.func87, Tryz.ntmps87
      simp only [S_lit]
      go_wp2_with fail
      go_ret2
      exact ⟨rfl, rfl⟩
    · have hw : wordOf [(z, s)] = ([], false) := if_neg (by simpa [bne] using hz)
      rw [hw]
      clear hw
      go_enter Tryz.func87, Tryz.ntmps87
      simp only [S_lit]
      go_wp2_with fail
      go_ret2
      exact ⟨rfl, rfl⟩
  · have hw : wordOf l = ([], false) := by
      match l, h1 with
      | [], _ => rfl
      | a :: b :: r, _ => rfl
    rw [hw]
    have hb : ((l.length : Int) != 1) = true := by simp [bne]; omega
    clear hl hw
    go_enter Tryz.func87, Tryz.ntmps87
    simp only [S_lit]
    go_wp2_with fail
    go_ret2
    exact ⟨rfl, rfl⟩

end Go.Proofs.YtjfikkjaifdkiaaGreatDoor

namespace Go.Proofs.YtjfikkjaifdkiaaGreatDoor
open Go.RowKit

set_option maxHeartbeats 400000 in
/-- 'Same' reads alone. -/
theorem same_quiet (va vb : Value) (la lb : List Lx.Tok) (w : World) (ha : Rt w va la) (hb : Rt w vb lb) (hla : la.length ≤ 1000000000000) (hlb : lb.length ≤ 1000000000000) :
    Calls Tryz.prog 23 #[va, vb] w fun e w' => e = .returned (.bool (la == lb)) ∧ ∃ m, w' = w.drewN m := by
  have hne := run_neq_ref
  obtain ⟨aa, ca, rfl⟩ := ha.shape
  obtain ⟨ab, cb, rfl⟩ := hb.shape
  by_cases hlen : la.length = lb.length
  · have HL := Lib.hid hlen
    have hb1 : ((la.length : Int) != (lb.length : Int)) = false := by simp [hlen]
    clear hlen
    go_enter Tryz.func23, Tryz.ntmps23
    go_wp2
    go_loopw [4, 5] (fun _ i wr => ∃ k : Nat, k ≤ la.length ∧ i = .int .i64 k ∧ Hid (la.take k = lb.take k) ∧ Hid (∃ m, wr = w.drewN m)) (fun _ i _ => la.length - (intOf i).toNat)
    case atStart => exact ⟨0, Nat.zero_le _, rfl, rfl, ⟨0, rfl⟩⟩
    case round =>
      obtain ⟨k, hk, rfl, HE, HD⟩ := hrel
      by_cases hlt : k < la.length
      · have hlt' : k < lb.length := HL.out ▸ hlt
        have ha' : Rt wr (.slice aa la.length ca) la := by obtain ⟨m, e⟩ := HD.out; rw [e]; exact Rd.drewN ha m
        have hb' : Rt wr (.slice ab lb.length cb) lb := by obtain ⟨m, e⟩ := HD.out; rw [e]; exact Rd.drewN hb m
        obtain ⟨b1, o1, rfl, c10, c11⟩ := Rt.at ha' hlt
        obtain ⟨b2, o2, rfl, c20, c21⟩ := Rt.at hb' hlt'
        clear ha' hb' ha hb
        go_wp2
        go_quiet (fail)
        go_wp2
        · have hx : (la[k] != lb[k]) = true := by assumption
          go_ret
          refine ⟨ret_bool ?_, by obtain ⟨m, e⟩ := HD.out; rw [e]; exact ⟨_, World.drewN_drewN _ _ _⟩⟩
          have : la ≠ lb := fun e => ne_of_bne hx (by subst e; rfl)
          simp [this]
        · have hx : (la[k] != lb[k]) = false := by assumption
          go_roundw
          case rel => exact ⟨k + 1, by omega, by go_num, take_succ_eq hlt hlt' HE.out (eq_of_bne hx), Lib.hid (by obtain ⟨m, e⟩ := HD.out; rw [e]; exact ⟨_, World.drewN_drewN _ _ _⟩)⟩
          case measure => simp [intOf]; omega
      · have hkl : k = la.length := by omega
        have heq : la = lb := by
          have := HE.out
          rw [hkl, List.take_length, HL.out, List.take_length] at this
          exact this
        have HQ := Lib.hid heq
        clear heq hkl ha hb
        go_wp2
        go_ret
        exact ⟨ret_bool (by simp [HQ.out]), HD.out⟩
  · have hb1 : ((la.length : Int) != (lb.length : Int)) = true := by simp [bne]; omega
    go_enter Tryz.func23, Tryz.ntmps23
    go_wp2
    go_ret
    refine ⟨ret_bool ?_, 0, rfl⟩
    have : la ≠ lb := fun e => hlen (by rw [e])
    simp [this]

end Go.Proofs.YtjfikkjaifdkiaaGreatDoor

namespace Go.Proofs.YtjfikkjaifdkiaaGreatDoor
open Go.RowKit

namespace Mx
open Lx
/-- The place of a parameter's argument; below 0: it has none. -/
def placeI (s : Bytes) : Int := match s with | [c] => (c.toNat : Int) - 49 | _ => -1
/-- What stands for a parameter whose argument's place is this one, if the first k arguments are asked. -/
def argAt (ls : List (List Tok)) (z : Int) (k : Nat) : List Tok := if 0 ≤ z ∧ z < k then ls.getD z.toNat [] else []
def fillOne (ls : List (List Tok)) (t : Tok) : List Tok := if t.1 = 7 then argAt ls (placeI t.2) ls.length else [t]
def fill (ls : List (List Tok)) (l : List Tok) : List Tok := l.flatMap (fillOne ls)
end Mx

theorem getD_le {ls : List (List Lx.Tok)} {m : Nat} (h : ∀ l ∈ ls, l.length ≤ m) (k : Nat) : (ls.getD k []).length ≤ m := by
  by_cases hk : k < ls.length
  · have e : ls.getD k [] = ls[k] := by simp [List.getD, hk]
    rw [e]; exact h _ (List.getElem_mem hk)
  · have e : ls.getD k [] = [] := by simp [List.getD, List.getElem?_eq_none (show ls.length ≤ k by omega)]
    rw [e]; simp
theorem fillOne_le {ls : List (List Lx.Tok)} {m : Nat} (h : ∀ l ∈ ls, l.length ≤ m) (t : Lx.Tok) : (Mx.fillOne ls t).length ≤ m + 1 := by
  unfold Mx.fillOne Mx.argAt
  split
  · split
    · have := getD_le h (Mx.placeI t.2).toNat; omega
    · simp
  · simp
theorem fill_take {ls : List (List Lx.Tok)} {l : List Lx.Tok} {k : Nat} (hk : k < l.length) : Mx.fill ls (l.take (k + 1)) = Mx.fill ls (l.take k) ++ Mx.fillOne ls l[k] := by
  rw [take_snoc l k hk]; simp only [Mx.fill, List.flatMap_append, List.flatMap_cons, List.flatMap_nil, List.append_nil]
theorem fill_le {ls : List (List Lx.Tok)} {m : Nat} (h : ∀ l ∈ ls, l.length ≤ m) (l : List Lx.Tok) : (Mx.fill ls l).length ≤ l.length * (m + 1) := by
  induction l with
  | nil => simp [Mx.fill]
  | cons t l ih =>
    have := fillOne_le h t
    have e : Mx.fill ls (t :: l) = Mx.fillOne ls t ++ Mx.fill ls l := by simp [Mx.fill]
    rw [e, List.length_append, List.length_cons, Nat.succ_mul]; omega

/-- 'place': that of a parameter's argument. -/
theorem place_any (s : List UInt8) (w : World) : Calls Tryz.prog 112 #[.string (S s)] w fun e w' => e = .returned (.int .i64 (Mx.placeI s)) ∧ w' = w := by
  match s with
  | [] =>
    go_enter Tryz.func112, Tryz.ntmps112
    go_wp2_with fail
    go_ret
    exact ⟨rfl, rfl⟩
  | [c] =>
    have hw : IntKind.i64.wrap ((c.toNat : Int)) = (c.toNat : Int) := (Go.IntWalk.i64_left _).trans (Go.IntWalk.wrap64_in _ (by have := c.toNat_lt; omega))
    have hw2 : IntKind.i64.wrap ((c.toNat : Int) - 49) = (c.toNat : Int) - 49 := (Go.IntWalk.i64_left _).trans (Go.IntWalk.wrap64_in _ (by have := c.toNat_lt; omega))
    have hlt := c.toNat_lt
    go_enter Tryz.func112, Tryz.ntmps112
    go_wp2_with fail
    go_ret
    exact ⟨rfl, rfl⟩
  | a :: b :: r =>
    have hb : (((a :: b :: r).length : Int) != 1) = true := by simp [bne]; omega
    go_enter Tryz.func112, Tryz.ntmps112
    go_wp2_with fail
    go_ret
    exact ⟨rfl, rfl⟩

set_option maxRecDepth 20000 in
set_option maxHeartbeats 1600000 in
/-- 'Fill'. -/
theorem fill_any (v va : Value) (l : List Lx.Tok) (ls : List (List Lx.Tok)) (w : World) (hl : Rt w v l) (ha : Rts w va ls) (hlen : l.length ≤ 100000) (hs : ∀ l ∈ ls, l.length ≤ 100000) :
    Calls Tryz.prog 82 #[v, va] w fun e w' => ∃ v', e = .returned v' ∧ w'.ownsRow w.heap.size 64 2 v' (Mx.fill ls l).length (tcs (Mx.fill ls l)) ∧ Below w.heap.size w w' := by
  obtain ⟨a0, c0, rfl⟩ := hl.shape
  obtain ⟨a1, c1, rfl⟩ := ha.shape
  have HL := Lib.hid hl
  have HA := Lib.hid ha
  clear hl ha
  go_enter Tryz.func82, Tryz.ntmps82
  go_wp2_with fail
  go_loopw [5, 11] (fun v i wr => ∃ (k : Nat) (acc : List Lx.Tok), k ≤ l.length ∧ i = .int .i64 k ∧ Hid (acc = Mx.fill ls (l.take k)) ∧ acc.length ≤ k * 100001 ∧ wr.ownsRow w.heap.size 64 2 v acc.length (tcs acc) ∧ Below w.heap.size w wr) (fun _ i _ => l.length - (intOf i).toNat)
  case atStart => exact ⟨0, [], Nat.zero_le _, rfl, rfl, Nat.zero_le _, World.ownsRow_nil _ _ _ _, Below.refl _ _⟩
  case round =>
    obtain ⟨k, acc, hk, rfl, HC, hal, hown, hbw⟩ := hrel
    have hsz := hbw.size
    by_cases hlt : k < l.length
    · obtain ⟨b1, o1, rfl, c10, c11⟩ := (HL.out.below' hbw).at hlt
      obtain ⟨z, s, hzs⟩ : ∃ z s, l[k] = (z, s) := ⟨_, _, rfl⟩
      have HN := Lib.hid (show acc ++ Mx.fillOne ls (z, s) = Mx.fill ls (l.take (k + 1)) by rw [fill_take hlt, ← HC.out, hzs])
      rw [hzs] at c10 c11
      clear hzs
      go_wp2_with fail
      (with_reducible refine (of1_any (z, s) 7 _ _ (by simp)).mono ?_); rintro e w2 ⟨rfl, b2⟩
      have ht2 := (b2.block wr.heap.size (by simp)).trans (heap_alloc_new wr _)
      have b2' : Below wr.heap.size wr w2 := ((Below.refl _ wr).alloc (Nat.le_refl _) _).trans (b2.mono (by simp))
      have bw2 := hbw.trans (b2'.mono hsz)
      have hs2 := b2'.size
      have c5 : w2.cell? ⟨wr.heap.size, 0, none⟩ = some (.int .i64 z) := row_cell ht2 0
      have c6 : w2.cell? ⟨wr.heap.size, 1, none⟩ = some (.string (S s)) := row_cell ht2 1
      have hown2 := own_below hown (own_under hown) b2'
      cases h7 : (z == 7)
      · have HF := Lib.hid (show Mx.fillOne ls (z, s) = [(z, s)] by rw [Mx.fillOne, if_neg (by simpa using h7)])
        go_wp2_with (at_builtin; refine wp_app tyTok rfl _ _ rfl w.heap.size hown2 rfl rfl (by simp) rfl tc_one (by omega) (by omega) (by omega) ?_; intro v3 w3 hown3 b3 _)
        go_roundw
        case rel => exact ⟨k + 1, acc ++ [(z, s)], by omega, by go_num, Lib.hid (by rw [← HN.out, HF.out]), by simp; omega, (by rw [tcs_snoc, List.length_append]; exact hown3), bw2.trans b3⟩
        case measure => simp [intOf]; omega
      · have hz7 : z = 7 := by simpa using h7
        subst hz7
        obtain ⟨q, hq⟩ : ∃ q, q = Mx.placeI s := ⟨_, rfl⟩
        have HF := Lib.hid (show Mx.fillOne ls (7, s) = Mx.argAt ls q ls.length by rw [Mx.fillOne, if_pos rfl, hq])
        have HP := Lib.hid hq
        clear hq
        by_cases hq0 : 0 ≤ q
        · by_cases hql : q < (ls.length : Int)
          · obtain ⟨m, rfl⟩ := Int.eq_ofNat_of_zero_le hq0
            have hml : m < ls.length := by omega
            obtain ⟨b3, o3, u, rfl, c30, r3, _, k3⟩ := (HA.out.below' bw2).at hml
            have HF2 := Lib.hid (HF.out.trans (show Mx.argAt ls (m : Int) ls.length = ls[m] by rw [Mx.argAt, if_pos ⟨hq0, hql⟩]; simp [List.getD, hml]))
            have hlm := hs _ (List.getElem_mem hml)
            obtain ⟨au, cu, rfl⟩ := r3.shape
            go_wp2_with (first
              | (go_at_call 112; (with_reducible refine (place_any _ _).mono ?_); rintro e w3 ⟨rfl, rfl⟩; rw [← HP.out])
              | (at_builtin; refine wp_app_all tyTok rfl _ _ rfl w.heap.size hown2 r3 rfl rfl tcs_one (by omega) (by omega) (by omega) ?_; intro v3 w3 hown3 b3 _))
            go_roundw
            case rel => exact ⟨k + 1, acc ++ ls[m], by omega, by go_num, Lib.hid (by rw [← HN.out, HF2.out]), by simp; omega, (by rw [tcs_append, List.length_append]; exact hown3), bw2.trans b3⟩
            case measure => simp [intOf]; omega
          · have HF2 := Lib.hid (HF.out.trans (show Mx.argAt ls q ls.length = [] by rw [Mx.argAt, if_neg (by omega)]))
            go_wp2_with (go_at_call 112; (with_reducible refine (place_any _ _).mono ?_); rintro e w3 ⟨rfl, rfl⟩; rw [← HP.out])
            go_roundw
            case rel => exact ⟨k + 1, acc, by omega, by go_num, Lib.hid (by rw [← HN.out, HF2.out, List.append_nil]), Nat.le_trans hal (Nat.mul_le_mul_right _ (Nat.le_succ k)), hown2, bw2⟩
            case measure => simp [intOf]; omega
        · have HF2 := Lib.hid (HF.out.trans (show Mx.argAt ls q ls.length = [] by rw [Mx.argAt, if_neg (by omega)]))
          go_wp2_with (go_at_call 112; (with_reducible refine (place_any _ _).mono ?_); rintro e w3 ⟨rfl, rfl⟩; rw [← HP.out])
          go_roundw
          case rel => exact ⟨k + 1, acc, by omega, by go_num, Lib.hid (by rw [← HN.out, HF2.out, List.append_nil]), Nat.le_trans hal (Nat.mul_le_mul_right _ (Nat.le_succ k)), hown2, bw2⟩
          case measure => simp [intOf]; omega
    · obtain rfl : k = l.length := by omega
      have HE := Lib.hid (HC.out.trans (by rw [List.take_length]))
      go_wp2_with fail
      go_ret
      exact ⟨_, rfl, by rw [← HE.out]; exact hown, hbw⟩

end Go.Proofs.YtjfikkjaifdkiaaGreatDoor
