
/- The macro layer: Get, Put; the library's Insert of one macro at the end. No condition. -/
import Derived.Test.YtkpdhpbnbpjceaaMacDrop
namespace Go.Proofs.Ytkpdhpbnbpjceaa
open Go.RowKit

/-- That of a name. -/
def getM (ms : List Mac) (t : List UInt8) : Mac × Bool := match ms.find? fun m => m.1 == t with | some m => (m, true) | none => (([], 0, []), false)
theorem getM_none {ms : List Mac} {t : List UInt8} (h : (ms.map Prod.fst).contains t = false) : getM ms t = (([], 0, []), false) := by
  have : (ms.find? fun m => m.1 == t) = none := by
    rw [List.find?_eq_none]
    intro m hm e
    have e : m.1 = t := by simpa using e
    have : t ∈ ms.map Prod.fst := List.mem_map.2 ⟨m, hm, e⟩
    simp [this] at h
  unfold getM
  rw [this]
theorem getM_at {ms : List Mac} {t : List UInt8} (hs : Sorted (ms.map Prod.fst)) {i : Nat} (hi : i < ms.length) (h : ms[i].1 = t) : getM ms t = (ms[i], true) := by
  have : (ms.find? fun m => m.1 == t) = some ms[i] := by
    rw [List.find?_eq_some_iff_getElem]
    refine ⟨by simpa using h, i, hi, rfl, fun j hj => ?_⟩
    have := List.pairwise_iff_getElem.1 hs j i (by simp; omega) (by simpa using hi) hj
    simp only [List.getElem_map] at this
    rw [h] at this
    have hne : ms[j].1 ≠ t := by rintro e; rw [e, cb_self] at this; omega
    simpa using hne
  unfold getM
  rw [this]

set_option maxRecDepth 20000 in
set_option maxHeartbeats 1600000 in
/-- 'Get'. -/
theorem get_any (v : Value) (ps : List (Mac × Value)) (t : List UInt8) (w : World) (hl : RdM w v ps) (hlen : ps.length ≤ 1000000) (hs : Sorted (ps.map fun p => p.1.1)) :
    Calls Try.prog 30 #[v, .string (S t)] w fun e w' => ∃ bv, e = .returned (.tuple #[.agg #[.string (S (getM (ps.map Prod.fst) t).1.1), .int .i64 (getM (ps.map Prod.fst) t).1.2.1, bv], .bool (getM (ps.map Prod.fst) t).2]) ∧ Rt w' bv (getM (ps.map Prod.fst) t).1.2.2 ∧ Below w.heap.size w w' := by
  have HR := Lib.hid hl
  obtain ⟨a0, c0, rfl⟩ := hl.1.shape
  clear hl
  obtain ⟨w0, hw0⟩ : ∃ w0, w0 = w.alloc (.cells #[.string (S []), .int .i64 0, .slice none 0 0] 55) := ⟨_, rfl⟩
  have hb0 : Below w.heap.size w w0 := by rw [hw0]; exact (Below.refl _ _).alloc (Nat.le_refl _) _
  have hg0 : w0.heap[w.heap.size]? = some (.cells #[.string (S []), .int .i64 0, .slice none 0 0] 55 (0, 0)) := by rw [hw0]; exact heap_alloc_new w _
  have hs0 := hb0.size
  have hl0 := row_lt hg0
  have HF := Lib.hid (find_any _ ps t w0 (HR.out.rd.below' hb0) hlen hs)
  have HW := Lib.hid hw0
  clear hw0
  cases hq : ((ps.map fun p => p.1.1)[lb (ps.map fun p => p.1.1) t]? == some t)
  · have HD := Lib.hid (show getM (ps.map Prod.fst) t = (([], 0, []), false) from getM_none (by rw [← names_map, ← lb_is hs]; exact hq))
    rw [hq] at HF
    obtain ⟨r, hr⟩ : ∃ r, r = lb (ps.map fun p => p.1.1) t := ⟨_, rfl⟩
    rw [← hr] at HF
    rw [HD.out]
    clear hq hr hs
    go_enter Try.func30, Try.ntmps30
    go_wp2_with fail
    rw [← HW.out]
    (with_reducible refine HF.out.mono ?_); rintro e w2 ⟨rfl, b2⟩
    have hg2 := (b2.block _ hl0).trans hg0
    have x0 : w2.cell? ⟨w.heap.size, 0, none⟩ = some (.string (S [])) := row_cell hg2 0
    have x1 : w2.cell? ⟨w.heap.size, 1, none⟩ = some (.int .i64 0) := row_cell hg2 1
    have x2 : w2.cell? ⟨w.heap.size, 2, none⟩ = some (.slice none 0 0) := row_cell hg2 2
    have y0 := row_free hg2 0
    have y1 := row_free hg2 1
    have y2 := row_free hg2 2
    go_wp2_with fail
    exact bodyPost_ret (v := .tuple #[.agg #[.string (S []), .int .i64 0, .slice none 0 0], .bool false]) (by simp [results, Try.results30, go_sem, x0, x1, x2]) rfl ⟨_, rfl, ⟨rfl, .inl ⟨.inl rfl, rfl⟩⟩, (((hb0.trans (b2.mono hs0)).setCell (p := ⟨w.heap.size, 0, none⟩) (Nat.le_refl _) _).setCell (p := ⟨w.heap.size, 1, none⟩) (Nat.le_refl _) _).setCell (p := ⟨w.heap.size, 2, none⟩) (Nat.le_refl _) _⟩
  · obtain ⟨r, hr⟩ : ∃ r, r = lb (ps.map fun p => p.1.1) t := ⟨_, rfl⟩
    rw [← hr] at HF hq
    have hq2 : (ps.map fun p => p.1.1)[r]? = some t := by simpa using hq
    have hrl : r < ps.length := by have := (List.getElem?_eq_some_iff.1 hq2).1; simpa using this
    have HD := Lib.hid (show getM (ps.map Prod.fst) t = (ps[r].1, true) by
      rw [getM_at (by rw [← names_map]; exact hs) (i := r) (by simpa using hrl) (by
        have := (List.getElem?_eq_some_iff.1 hq2).2
        simpa using this)]
      simp)
    rw [hq] at HF
    clear hq hr hs hq2
    have hbody := HR.out.2 ps[r] (List.getElem_mem hrl)
    obtain ⟨⟨⟨nm, pm, bm⟩, bv⟩, hp⟩ : ∃ x, x = ps[r] := ⟨_, rfl⟩
    rw [← hp] at hbody HD
    rw [HD.out]
    have HP := Lib.hid hp
    clear hp
    go_enter Try.func30, Try.ntmps30
    go_wp2_with fail
    rw [← HW.out]
    (with_reducible refine HF.out.mono ?_); rintro e w2 ⟨rfl, b2⟩
    have hg2 := (b2.block _ hl0).trans hg0
    obtain ⟨b1, o1, rfl, c1, c2, c3⟩ := mac_at ((HR.out.rd.below' hb0).below' b2) hrl
    have hb2 := (hbody.1.below' hb0).below' b2
    have hbl := hbody.2
    rw [← HP.out] at c1 c2 c3
    have hb2 : Rt w2 bv bm := hb2
    have hbl : bm.length ≤ 1000000 := hbl
    obtain ⟨ab, cb, rfl⟩ := hb2.shape
    have hs2 := b2.size
    clear hbody
    go_wp2_with fail
    (with_reducible refine (clone_tok _ bm _ (Rt.below' hb2 ((Below.refl _ _).alloc (Nat.le_refl _) _)) (by omega)).mono ?_); rintro e w3 ⟨cv, rfl, hcv, b3⟩
    obtain ⟨a3, c3', rfl⟩ := own_shape hcv
    have ht3 := (b3.block w2.heap.size (by simp)).trans (heap_alloc_new w2 _)
    have d1 : w3.cell? ⟨w2.heap.size, 0, none⟩ = some (.string (S nm)) := row_cell ht3 0
    have d2 : w3.cell? ⟨w2.heap.size, 1, none⟩ = some (.int .i64 pm) := row_cell ht3 1
    have d3 : w3.cell? ⟨w2.heap.size, 2, none⟩ = some (.slice ab bm.length cb) := row_cell ht3 2
    have f3 := row_free ht3 2
    have b23 : Below w2.heap.size w2 w3 := ((Below.refl _ _).alloc (Nat.le_refl _) _).trans (b3.mono (by simp))
    have hg3 := (b23.block _ (by omega)).trans hg2
    have x0 : w3.cell? ⟨w.heap.size, 0, none⟩ = some (.string (S [])) := row_cell hg3 0
    have x1 : w3.cell? ⟨w.heap.size, 1, none⟩ = some (.int .i64 0) := row_cell hg3 1
    have x2 : w3.cell? ⟨w.heap.size, 2, none⟩ = some (.slice none 0 0) := row_cell hg3 2
    have y0 := row_free hg3 0
    have y1 := row_free hg3 1
    have y2 := row_free hg3 2
    have bset := ((hb0.trans (b2.mono hs0)).trans (b23.mono (by omega))).setCell (p := ⟨w2.heap.size, 2, none⟩) (by omega : w.heap.size ≤ w2.heap.size) (.slice a3 bm.length c3')
    have hrt : Rt (w3.setCell ⟨w2.heap.size, 2, none⟩ (.slice a3 bm.length c3')) (.slice a3 bm.length c3') bm := Rt.apart (own_rd hcv) (setCell_grown _ _ _) fun _ b hb e => by
      injection e with e
      have e : b = w2.heap.size := e
      have := (hcv.lt b hb).1
      simp at this; omega
    have hsep : ∀ j b, (Value.slice a3 bm.length c3').ownBlock = some b → some b ≠ some (⟨w.heap.size, j, none⟩ : Addr).block := fun j b hb e => by
      injection e with e
      have e : b = w.heap.size := e
      have := (hcv.lt b hb).1
      simp at this; omega
    go_wp2_with fail
    exact bodyPost_ret (v := .tuple #[.agg #[.string (S nm), .int .i64 pm, .slice a3 bm.length c3'], .bool true]) (by simp [results, Try.results30, go_sem, x0, x1, x2]) rfl ⟨_, rfl,
      ((hrt.apart (setCell_grown _ ⟨w.heap.size, 0, none⟩ _) fun _ b hb => hsep 0 b hb).apart (setCell_grown _ ⟨w.heap.size, 1, none⟩ _) fun _ b hb => hsep 1 b hb).apart (setCell_grown _ ⟨w.heap.size, 2, none⟩ _) fun _ b hb => hsep 2 b hb,
      ((bset.setCell (p := ⟨w.heap.size, 0, none⟩) (Nat.le_refl _) _).setCell (p := ⟨w.heap.size, 1, none⟩) (Nat.le_refl _) _).setCell (p := ⟨w.heap.size, 2, none⟩) (Nat.le_refl _) _⟩

/-- What 'slices.Insert' of one macro at a place does. -/
def InsOk (n i : Nat) : Prop := ∀ (B : Nat) (v : Value) (xs : List Value) (w : World) (gv : Nat) (a b c : Value), w.ownsRow B 55 3 v n xs → w.heap[gv]? = some (.cells #[a, b, c] 55 (0, 0)) → v.ownBlock ≠ some gv → (∀ u ∈ xs ++ [a, b, c], u.oneCell' = true) → B ≤ w.heap.size → n ≤ 1000000 →
  Calls Try.prog 47 #[v, .int .i64 (i : Int), .slice (some ⟨gv, 0, none⟩) 1 1] w fun e w' => ∃ v', e = .returned v' ∧ w'.ownsRow B 55 3 v' (n + 1) (xs.take (i * 3) ++ [a, b, c] ++ xs.drop (i * 3)) ∧ w.grownBy w' v.ownBlock ∧ Near w v v'

set_option maxRecDepth 20000 in
set_option maxHeartbeats 1600000 in
/-- 'slices.Insert' at the end. -/
theorem insert_end (n : Nat) : InsOk n n := by
  intro B v xs w gv a b c hown hgv hne h1 hB hn
  have hrd : Rd w 3 (.slice (some ⟨gv, 0, none⟩) 1 1) 1 [a, b, c] := ⟨rfl, .inr ⟨gv, 0, 1, rfl, fun _ => row_lt hgv, fun j u hj => by rw [Nat.zero_add, row_cell hgv]; simpa using hj, Nat.le_refl _⟩⟩
  have hle : xs.take (n * 3) = xs := List.take_of_length_le (by rw [hown.1]; omega)
  have hde : xs.drop (n * 3) = [] := List.drop_eq_nil_of_le (by rw [hown.1]; omega)
  rw [hle, hde, List.append_nil]
  clear hle hde
  have hone : ∀ u ∈ [a, b, c], u.oneCell' = true := fun u hu => h1 u (List.mem_append_right _ hu)
  clear h1
  obtain ⟨av, cv, rfl⟩ := own_shape hown
  go_enter Try.func47, Try.ntmps47
  go_wp2_with (at_builtin; refine wp_app_all2 tyMac rfl _ _ rfl B hown hrd rfl rfl hone (by omega) (by omega) hB ?_; intro v5 w5 hown5 b5 hg5 hnear)
  all_goals (go_ret; first | exact ⟨_, rfl, hown5, hg5, hnear⟩ | (cases h; exact ⟨_, rfl, hown5, hg5, hnear⟩))

/-- With one more. -/
def putL (ms : List Mac) (m : Mac) : List Mac :=
  if (ms.map Prod.fst).contains m.1 then ms.set (lb (ms.map Prod.fst) m.1) m else ms.take (lb (ms.map Prod.fst) m.1) ++ m :: ms.drop (lb (ms.map Prod.fst) m.1)
/-- What 'Put' answers. -/
def putM (ms : List Mac) (m : Mac) : List Mac × Int :=
  if Mx.named m.1 = false then ([], 2) else if m.2.1 < 0 ∨ 9 < m.2.1 then ([], 1) else if (ms.map Prod.fst).contains m.1 = false ∧ 40 ≤ ms.length then ([], 3) else (putL ms m, 0)

theorem mcs_set3 (ps : List (Mac × Value)) (r : Nat) (h : r < ps.length) (m : Mac) (b : Value) : (((mcs ps).set (r * 3) (.string (S m.1))).set (r * 3 + 1) (.int .i64 m.2.1)).set (r * 3 + 2) b = mcs (ps.set r (m, b)) := by
  induction ps generalizing r with
  | nil => simp at h
  | cons t l ih =>
    have e : ∀ (t : Mac × Value) l, mcs (t :: l) = .string (S t.1.1) :: .int .i64 t.1.2.1 :: t.2 :: mcs l := fun t l => by simp [mcs, mc]
    cases r with
    | zero => simp [mcs, mc]
    | succ i =>
      have hi : i < l.length := by simpa using h
      have := ih i hi
      rw [e, show (i + 1) * 3 = i * 3 + 1 + 1 + 1 by omega, show i * 3 + 1 + 1 + 1 + 1 = i * 3 + 1 + 1 + 1 + 1 from rfl, show i * 3 + 1 + 1 + 1 + 2 = i * 3 + 2 + 1 + 1 + 1 by omega]
      simp only [List.set_cons_succ, e, this]

/-- A macro stored into what the call owns. -/
theorem put_cells {w : World} {B g c n r : Nat} {xs : List Value} {qs : List (Mac × Value)} {a b d : Value} (h : w.ownsRow B 55 3 (.slice (some ⟨g, 0, none⟩) n c) n xs) (hq : ((xs.set (r * 3) a).set (r * 3 + 1) b).set (r * 3 + 2) d = mcs qs) (hl : qs.length = n) (hb : Bod w (.slice (some ⟨g, 0, none⟩) n c) qs) :
    OwnM (((w.setCell ⟨g, r * 3, none⟩ a).setCell ⟨g, r * 3 + 1, none⟩ b).setCell ⟨g, r * 3 + 2, none⟩ d) B (.slice (some ⟨g, 0, none⟩) n c) qs := by
  have h3 := own_setk (own_setk (own_setk h (r * 3) a) (r * 3 + 1) b) (r * 3 + 2) d
  rw [hq] at h3
  refine ⟨by rw [hl]; exact h3, fun p hp => ?_⟩
  have h4 := hb p hp
  have hne : ∀ (o : Nat), 0 < p.1.2.2.length → ∀ b, p.2.ownBlock = some b → some b ≠ some (⟨g, o, none⟩ : Addr).block := fun o h0 b hb e => by
    injection e with e
    exact (h4.2.2 h0 b hb).2 (congrArg some e.symm)
  exact ⟨((h4.1.apart (setCell_grown _ ⟨g, r * 3, none⟩ _) (hne _)).apart (setCell_grown _ ⟨g, r * 3 + 1, none⟩ _) (hne _)).apart (setCell_grown _ ⟨g, r * 3 + 2, none⟩ _) (hne _), h4.2.1, fun h0 b hb => ⟨by simpa [World.setCell] using (h4.2.2 h0 b hb).1, (h4.2.2 h0 b hb).2⟩⟩
theorem put_below {B : Nat} {a w : World} (h : Below B a w) {g : Nat} (hg : B ≤ g) (o : Nat) (x y z : Value) : Below B a (((w.setCell ⟨g, o, none⟩ x).setCell ⟨g, o + 1, none⟩ y).setCell ⟨g, o + 2, none⟩ z) :=
  ((h.setCell (p := ⟨g, o, none⟩) hg x).setCell (p := ⟨g, o + 1, none⟩) hg y).setCell (p := ⟨g, o + 2, none⟩) hg z

theorem mc_mid (ps qs : List (Mac × Value)) (p : Mac × Value) : mcs (ps ++ p :: qs) = mcs ps ++ mc p ++ mcs qs := by simp [mcs]
theorem mcs_take (ps : List (Mac × Value)) (i : Nat) (hi : i ≤ ps.length) : (mcs ps).take (i * 3) = mcs (ps.take i) ∧ (mcs ps).drop (i * 3) = mcs (ps.drop i) := by
  have e : mcs ps = mcs (ps.take i) ++ mcs (ps.drop i) := by rw [← mcs_append, List.take_append_drop]
  have l1 : (mcs (ps.take i)).length = i * 3 := by rw [mcs_length, List.length_take]; omega
  constructor
  · conv => lhs; rw [e]
    rw [List.take_append_of_le_length (by omega), List.take_of_length_le (by omega)]
  · conv => lhs; rw [e]
    rw [List.drop_append, List.drop_eq_nil_of_le (by omega), l1, Nat.sub_self]; rfl

set_option maxRecDepth 20000 in
set_option maxHeartbeats 1600000 in
/-- 'Put', where the library's Insert does what it should. -/
theorem put_any (v bv : Value) (ps : List (Mac × Value)) (m : Mac) (w : World) (hl : RdM w v ps) (hb : Rt w bv m.2.2) (hbl : m.2.2.length ≤ 1000000) (hnl : m.1.length ≤ 1000000000) (hlen : ps.length ≤ 100000) (hs : Sorted (ps.map fun p => p.1.1))
    (hins : (ps.map fun p => p.1.1).contains m.1 = false → InsOk ps.length (lb (ps.map fun p => p.1.1) m.1)) :
    Calls Try.prog 27 #[v, .agg #[.string (S m.1), .int .i64 m.2.1, bv]] w fun e w' => ∃ v' qs, e = .returned (.tuple #[v', .int .i64 (putM (ps.map Prod.fst) m).2]) ∧ qs.map Prod.fst = (putM (ps.map Prod.fst) m).1 ∧ OwnM w' w.heap.size v' qs ∧ Below w.heap.size w w' := by
  obtain ⟨nm, pm, bm⟩ := m
  have HR := Lib.hid hl
  obtain ⟨a0, c0, rfl⟩ := hl.1.shape
  obtain ⟨ab, cb, rfl⟩ := hb.shape
  clear hl
  have HB := Lib.hid hb
  clear hb
  obtain ⟨w0, hw0⟩ : ∃ w0, w0 = w.alloc (.cells #[.string (S nm), .int .i64 pm, .slice ab bm.length cb] 55) := ⟨_, rfl⟩
  have hb0 : Below w.heap.size w w0 := by rw [hw0]; exact (Below.refl _ _).alloc (Nat.le_refl _) _
  have hg0 : w0.heap[w.heap.size]? = some (.cells #[.string (S nm), .int .i64 pm, .slice ab bm.length cb] 55 (0, 0)) := by rw [hw0]; exact heap_alloc_new w _
  have hs0 := hb0.size
  have hl0 := row_lt hg0
  have HF := Lib.hid (find_any _ ps nm w0 (HR.out.rd.below' hb0) (by omega) hs)
  have HW := Lib.hid hw0
  clear hw0
  have hbl : bm.length ≤ 1000000 := hbl
  have hnl : nm.length ≤ 1000000000 := hnl
  rw [lb_is hs] at HF
  have hrle : lb (ps.map fun p => p.1.1) nm ≤ ps.length := by have := lb_le (ps.map fun p => p.1.1) nm; simpa using this
  have hat : (ps.map fun p => p.1.1).contains nm = true → lb (ps.map fun p => p.1.1) nm < ps.length := fun h => by
    have h2 := lb_is (t := nm) hs
    rw [h] at h2
    have h3 : (ps.map fun p => p.1.1)[lb (ps.map fun p => p.1.1) nm]? = some nm := by simpa using h2
    have := (List.getElem?_eq_some_iff.1 h3).1
    simpa using this
  have hins : (ps.map fun p => p.1.1).contains nm = false → InsOk ps.length (lb (ps.map fun p => p.1.1) nm) := hins
  have hput : ∀ q r, (ps.map fun p => p.1.1).contains nm = q → lb (ps.map fun p => p.1.1) nm = r → putL (ps.map Prod.fst) (nm, pm, bm) = if q then (ps.map Prod.fst).set r (nm, pm, bm) else (ps.map Prod.fst).take r ++ (nm, pm, bm) :: (ps.map Prod.fst).drop r := by
    intro q r h1 h2
    rw [names_map] at h1 h2
    unfold putL
    rw [h1, h2]
  have hpm : ∀ q, (ps.map fun p => p.1.1).contains nm = q → putM (ps.map Prod.fst) (nm, pm, bm) = if Mx.named nm = false then ([], 2) else if pm < 0 ∨ 9 < pm then ([], 1) else if q = false ∧ 40 ≤ ps.length then ([], 3) else (putL (ps.map Prod.fst) (nm, pm, bm), 0) := by
    intro q h1
    rw [names_map] at h1
    unfold putM
    rw [h1, List.length_map]
  obtain ⟨r, hr⟩ : ∃ r, r = lb (ps.map fun p => p.1.1) nm := ⟨_, rfl⟩
  obtain ⟨q, hq⟩ : ∃ q, q = (ps.map fun p => p.1.1).contains nm := ⟨_, rfl⟩
  have HPL := Lib.hid (hput q r hq.symm hr.symm)
  have HPM := Lib.hid (hpm q hq.symm)
  rw [← hr, ← hq] at hins hat
  rw [← hr, ← hq] at HF
  rw [← hr] at hrle
  clear hr hq hput hpm hs
  have HN := Lib.hid (named_any nm hnl)
  obtain ⟨isn, hisn⟩ : ∃ b, b = Mx.named nm := ⟨_, rfl⟩
  rw [← hisn] at HN HPM
  clear hisn
  cases isn
  · have HX := Lib.hid (show putM (ps.map Prod.fst) (nm, pm, bm) = ([], 2) from HPM.out)
    rw [HX.out]
    go_enter Try.func27, Try.ntmps27
    go_wp2_with fail
    rw [← HW.out]
    (with_reducible refine HF.out.mono ?_); rintro e w2 ⟨rfl, b2⟩
    have hg2 := (b2.block _ hl0).trans hg0
    have x0 : w2.cell? ⟨w.heap.size, 0, none⟩ = some (.string (S nm)) := row_cell hg2 0
    go_wp2_with fail
    (with_reducible refine (HN.out _).mono ?_); rintro e w3 ⟨rfl, rfl⟩
    go_wp2_with fail
    go_ret2
    exact ⟨_, [], rfl, rfl, ⟨World.ownsRow_nil _ _ _ _, fun _ h => by cases h⟩, hb0.trans (b2.mono hs0)⟩
  · have HPM2 := Lib.hid (show putM (ps.map Prod.fst) (nm, pm, bm) = if pm < 0 ∨ 9 < pm then ([], 1) else if q = false ∧ 40 ≤ ps.length then ([], 3) else (putL (ps.map Prod.fst) (nm, pm, bm), 0) from HPM.out)
    clear HPM
    by_cases hp0 : pm < 0
    · have HX := Lib.hid (HPM2.out.trans (if_pos (.inl hp0)))
      rw [HX.out]
      go_enter Try.func27, Try.ntmps27
      go_wp2_with fail
      rw [← HW.out]
      (with_reducible refine HF.out.mono ?_); rintro e w2 ⟨rfl, b2⟩
      have hg2 := (b2.block _ hl0).trans hg0
      have x0 : w2.cell? ⟨w.heap.size, 0, none⟩ = some (.string (S nm)) := row_cell hg2 0
      have x1 : w2.cell? ⟨w.heap.size, 1, none⟩ = some (.int .i64 pm) := row_cell hg2 1
      go_wp2_with fail
      (with_reducible refine (HN.out _).mono ?_); rintro e w3 ⟨rfl, rfl⟩
      go_wp2_with fail
      go_ret2
      exact ⟨_, [], rfl, rfl, ⟨World.ownsRow_nil _ _ _ _, fun _ h => by cases h⟩, hb0.trans (b2.mono hs0)⟩
    · by_cases hp9 : 9 < pm
      · have HX := Lib.hid (HPM2.out.trans (if_pos (.inr hp9)))
        rw [HX.out]
        go_enter Try.func27, Try.ntmps27
        go_wp2_with fail
        rw [← HW.out]
        (with_reducible refine HF.out.mono ?_); rintro e w2 ⟨rfl, b2⟩
        have hg2 := (b2.block _ hl0).trans hg0
        have x0 : w2.cell? ⟨w.heap.size, 0, none⟩ = some (.string (S nm)) := row_cell hg2 0
        have x1 : w2.cell? ⟨w.heap.size, 1, none⟩ = some (.int .i64 pm) := row_cell hg2 1
        go_wp2_with fail
        (with_reducible refine (HN.out _).mono ?_); rintro e w3 ⟨rfl, rfl⟩
        go_wp2_with fail
        go_ret2
        exact ⟨_, [], rfl, rfl, ⟨World.ownsRow_nil _ _ _ _, fun _ h => by cases h⟩, hb0.trans (b2.mono hs0)⟩
      · have HPM3 := Lib.hid (HPM2.out.trans (if_neg (by omega)))
        clear HPM2
        cases q
        · by_cases h40 : 40 ≤ ps.length
          · have HX := Lib.hid (HPM3.out.trans (if_pos ⟨rfl, h40⟩))
            rw [HX.out]
            have h40' : (40 : Int) ≤ (ps.length : Int) := by omega
            go_enter Try.func27, Try.ntmps27
            go_wp2_with fail
            rw [← HW.out]
            (with_reducible refine HF.out.mono ?_); rintro e w2 ⟨rfl, b2⟩
            have hg2 := (b2.block _ hl0).trans hg0
            have x0 : w2.cell? ⟨w.heap.size, 0, none⟩ = some (.string (S nm)) := row_cell hg2 0
            have x1 : w2.cell? ⟨w.heap.size, 1, none⟩ = some (.int .i64 pm) := row_cell hg2 1
            go_wp2_with fail
            (with_reducible refine (HN.out _).mono ?_); rintro e w3 ⟨rfl, rfl⟩
            go_wp2_with fail
            go_ret2
            exact ⟨_, [], rfl, rfl, ⟨World.ownsRow_nil _ _ _ _, fun _ h => by cases h⟩, hb0.trans (b2.mono hs0)⟩
          · have HX := Lib.hid (HPM3.out.trans (if_neg (fun h => h40 h.2)))
            rw [HX.out]
            have h40' : decide ((40 : Int) ≤ (ps.length : Int)) = false := by simp; omega
            have HI := Lib.hid (hins rfl)
            go_enter Try.func27, Try.ntmps27
            go_wp2_with fail
            rw [← HW.out]
            (with_reducible refine HF.out.mono ?_); rintro e w2 ⟨rfl, b2⟩
            have hg2 := (b2.block _ hl0).trans hg0
            have x0 : w2.cell? ⟨w.heap.size, 0, none⟩ = some (.string (S nm)) := row_cell hg2 0
            have x1 : w2.cell? ⟨w.heap.size, 1, none⟩ = some (.int .i64 pm) := row_cell hg2 1
            go_wp2_with fail
            (with_reducible refine (HN.out _).mono ?_); rintro e w3 ⟨rfl, rfl⟩
            go_wp2_with fail
            (with_reducible refine (clone_mac _ ps w3 ((HR.out.rd.below' hb0).below' b2) (by omega) HR.out.one).mono ?_); rintro e w4 ⟨v1, rfl, hown4, b4⟩
            have hs2 := b2.size
            have hbw3 := hb0.trans (b2.mono hs0)
            have hbw4 := hbw3.trans (b4.mono hbw3.size)
            have hs4 := b4.size
            have hO4 := HR.out.cloned hbw4 (own_mono hown4 hbw3.size)
            have hg4 := (b4.block _ (by omega)).trans hg2
            clear x0 x1
            have x0 : w4.cell? ⟨w.heap.size, 0, none⟩ = some (.string (S nm)) := row_cell hg4 0
            have x1 : w4.cell? ⟨w.heap.size, 1, none⟩ = some (.int .i64 pm) := row_cell hg4 1
            have x2 : w4.cell? ⟨w.heap.size, 2, none⟩ = some (.slice ab bm.length cb) := row_cell hg4 2
            have hgl4 := row_lt hg4
            obtain ⟨wa, hwa⟩ : ∃ wa, wa = w4.alloc (.cells #[.string (S nm), .int .i64 pm, .slice ab bm.length cb] 55) := ⟨_, rfl⟩
            have hga : wa.heap[w4.heap.size]? = some (.cells #[.string (S nm), .int .i64 pm, .slice ab bm.length cb] 55 (0, 0)) := by rw [hwa]; exact heap_alloc_new w4 _
            have hba : Below w4.heap.size w4 wa := by rw [hwa]; exact (Below.refl _ _).alloc (Nat.le_refl _) _
            have hsa := hba.size
            have hOa := hO4.below hba
            have hgma := (hba.block _ hgl4).trans hg4
            have hINS := Lib.hid (HI.out w.heap.size v1 (mcs ps) wa w4.heap.size _ _ _ hOa.row hga (fun e => by have := (hO4.row.lt _ e).2; omega) (by
              intro u hu
              rcases List.mem_append.1 hu with hu | hu
              · exact HR.out.one u hu
              · simp at hu; rcases hu with rfl | rfl | rfl <;> rfl) (by omega) (by omega))
            have HWA := Lib.hid hwa
            clear hwa
            obtain ⟨a1, c1, rfl⟩ := own_shape hown4
            go_wp2_with fail
            rw [← HWA.out]
            (with_reducible refine hINS.out.mono ?_); rintro e w5 ⟨v2, rfl, hown5, hg5, hnear⟩
            obtain ⟨qs, hqs⟩ : ∃ qs, qs = ps.take r ++ ((nm, pm, bm), Value.slice ab bm.length cb) :: ps.drop r := ⟨_, rfl⟩
            have hql : qs.length = ps.length + 1 := by rw [hqs]; simp; omega
            have hqr : qs[r]? = some ((nm, pm, bm), Value.slice ab bm.length cb) := by
              rw [hqs, List.getElem?_append_right (by simp; omega)]
              have : r - (ps.take r).length = 0 := by simp; omega
              rw [this]; rfl
            have hrq : r < qs.length := by omega
            have hqr2 : qs[r] = ((nm, pm, bm), Value.slice ab bm.length cb) := by rw [List.getElem?_eq_getElem hrq] at hqr; simpa using hqr
            have hcells : (mcs ps).take (r * 3) ++ [.string (S nm), .int .i64 pm, .slice ab bm.length cb] ++ (mcs ps).drop (r * 3) = mcs qs := by
              rw [hqs, mc_mid, (mcs_take ps r hrle).1, (mcs_take ps r hrle).2]; rfl
            rw [hcells] at hown5
            have hv1 : ∀ b, (Value.slice a1 ps.length c1).ownBlock = some b → w3.heap.size ≤ b ∧ b < w4.heap.size := fun b hb => hown4.lt b hb
            have hg5m := (hg5.block _ (row_lt hgma) (fun e => by have := (hv1 _ e.symm).1; omega)).trans hgma
            have hbod : Bod w5 v2 qs := by
              intro p hp
              rw [hqs] at hp
              have key : Rt wa p.2 p.1.2.2 ∧ p.1.2.2.length ≤ 1000000 ∧ (0 < p.1.2.2.length → ∀ b, p.2.ownBlock = some b → b < wa.heap.size ∧ (Value.slice a1 ps.length c1).ownBlock ≠ some b) := by
                rcases List.mem_append.1 hp with h | h
                · exact hOa.bod p (List.mem_of_mem_take h)
                · rcases List.mem_cons.1 h with rfl | h
                  · refine ⟨(HB.out.below' hbw4).below' hba, hbl, fun h0 b hb => ?_⟩
                    have hu := Rd.under HB.out h0 b hb
                    exact ⟨by omega, fun e => by have := (hv1 b e).1; omega⟩
                  · exact hOa.bod p (List.mem_of_mem_drop h)
              refine ⟨key.1.apart hg5 fun h0 b hb e => (key.2.2 h0 b hb).2 e.symm, key.2.1, fun h0 b hb => ⟨Nat.lt_of_lt_of_le (key.2.2 h0 b hb).1 hg5.size, fun e => ?_⟩⟩
              rcases hnear with h | ⟨g', h, hle⟩
              · exact (key.2.2 h0 b hb).2 (h.symm.trans e)
              · rw [h] at e; injection e with e; have := (key.2.2 h0 b hb).1; omega
            have b5 : Below w.heap.size wa w5 := (Below.refl _ _).grown hg5 (by omega) (fun j hj => by have := (hv1 j hj).1; omega)
            have hbw5 := (hbw4.trans (hba.mono (by omega : w.heap.size ≤ w4.heap.size))).trans b5
            rcases hown5.2 with ⟨_, h0⟩ | ⟨g, cap, cur, hv, hgB, hgr, _⟩
            · omega
            · subst hv
              clear x0 x1 x2
              have x0 : w5.cell? ⟨w.heap.size, 0, none⟩ = some (.string (S nm)) := row_cell hg5m 0
              have x1 : w5.cell? ⟨w.heap.size, 1, none⟩ = some (.int .i64 pm) := row_cell hg5m 1
              have x2 : w5.cell? ⟨w.heap.size, 2, none⟩ = some (.slice ab bm.length cb) := row_cell hg5m 2
              have z0 := own_at hown5 (mcs_at qs r hrq).1
              have z1 := own_at hown5 (mcs_at qs r hrq).2.1
              have z2 := own_at hown5 (mcs_at qs r hrq).2.2
              rw [hqr2] at z0 z1 z2
              have f0 := own_free hown5 (r * 3)
              have f1 := own_free hown5 (r * 3 + 1)
              have f2 := own_free hown5 (r * 3 + 2)
              have hri : (r : Int) < (ps.length : Int) + 1 := by omega
              have hset : qs.set r ((nm, pm, bm), Value.slice ab bm.length cb) = qs := by
                apply List.ext_getElem
                · simp
                · intro i h1 h2
                  rw [List.getElem_set]
                  split
                  · rename_i h; subst h; exact hqr2.symm
                  · rfl
              have hOp := put_cells (r := r) (qs := qs) hown5 (by have := mcs_set3 qs r hrq (nm, pm, bm) (.slice ab bm.length cb); rw [hset] at this; exact this) hql hbod
              have hbp := put_below hbw5 (by omega : w.heap.size ≤ g) (r * 3) (.string (S nm)) (.int .i64 pm) (.slice ab bm.length cb)
              obtain ⟨wp, hwp⟩ : ∃ wp, wp = ((w5.setCell ⟨g, r * 3, none⟩ (.string (S nm))).setCell ⟨g, r * 3 + 1, none⟩ (.int .i64 pm)).setCell ⟨g, r * 3 + 2, none⟩ (.slice ab bm.length cb) := ⟨_, rfl⟩
              rw [← hwp] at hOp hbp
              have HWP := Lib.hid hwp
              clear hwp
              have HL := Lib.hid (show putL (ps.map Prod.fst) (nm, pm, bm) = qs.map Prod.fst by rw [HPL.out, hqs]; simp)
              have HQL := Lib.hid hql
              clear hqs hql hset hqr2 hqr hbod hcells
              go_wp2_with fail
              rw [← HWP.out]
              (with_reducible refine (own_any w.heap.size _ _ wp hOp (by rw [HQL.out]; omega) hbp.size).mono ?_); rintro e w6 ⟨v6, qs2, rfl, hm, h6, b6⟩
              obtain ⟨a6, c6, rfl⟩ := own_shape h6.row
              go_wp2_with fail
              go_ret2
              exact ⟨_, qs2, rfl, by rw [HL.out]; exact hm, h6, hbp.trans b6⟩
        · have HX := Lib.hid (HPM3.out.trans (if_neg (fun h => Bool.noConfusion h.1)))
          rw [HX.out]
          have hrl := hat rfl
          go_enter Try.func27, Try.ntmps27
          go_wp2_with fail
          rw [← HW.out]
          (with_reducible refine HF.out.mono ?_); rintro e w2 ⟨rfl, b2⟩
          have hg2 := (b2.block _ hl0).trans hg0
          have x0 : w2.cell? ⟨w.heap.size, 0, none⟩ = some (.string (S nm)) := row_cell hg2 0
          have x1 : w2.cell? ⟨w.heap.size, 1, none⟩ = some (.int .i64 pm) := row_cell hg2 1
          go_wp2_with fail
          (with_reducible refine (HN.out _).mono ?_); rintro e w3 ⟨rfl, rfl⟩
          go_wp2_with fail
          (with_reducible refine (clone_mac _ ps w3 ((HR.out.rd.below' hb0).below' b2) (by omega) HR.out.one).mono ?_); rintro e w4 ⟨v1, rfl, hown4, b4⟩
          have hs2 := b2.size
          have hbw3 := hb0.trans (b2.mono hs0)
          have hbw4 := hbw3.trans (b4.mono hbw3.size)
          have hs4 := b4.size
          have hO4 := HR.out.cloned hbw4 (own_mono hown4 hbw3.size)
          have hg4 := (b4.block _ (by omega)).trans hg2
          clear x0 x1
          rcases hown4.2 with ⟨_, h0⟩ | ⟨g, cap, cur, hv, hgB, hgr, _⟩
          · omega
          · subst hv
            have x0 : w4.cell? ⟨w.heap.size, 0, none⟩ = some (.string (S nm)) := row_cell hg4 0
            have x1 : w4.cell? ⟨w.heap.size, 1, none⟩ = some (.int .i64 pm) := row_cell hg4 1
            have x2 : w4.cell? ⟨w.heap.size, 2, none⟩ = some (.slice ab bm.length cb) := row_cell hg4 2
            have z0 := own_at hown4 (mcs_at ps r hrl).1
            have z1 := own_at hown4 (mcs_at ps r hrl).2.1
            have z2 := own_at hown4 (mcs_at ps r hrl).2.2
            have f0 := own_free hown4 (r * 3)
            have f1 := own_free hown4 (r * 3 + 1)
            have f2 := own_free hown4 (r * 3 + 2)
            have hri : (r : Int) < (ps.length : Int) := by omega
            have hOp := put_cells (r := r) (qs := ps.set r ((nm, pm, bm), .slice ab bm.length cb)) hO4.row (mcs_set3 ps r hrl (nm, pm, bm) (.slice ab bm.length cb)) (by simp) (fun p hp => by
              rcases List.mem_or_eq_of_mem_set hp with hp | rfl
              · exact hO4.bod p hp
              · refine ⟨HB.out.below' hbw4, hbl, fun h0 b hb => ?_⟩
                have hu := Rd.under HB.out h0 b hb
                exact ⟨by have := hbw4.size; omega, fun e => by have e : some g = some b := e; injection e with e; omega⟩)
            have hbp := put_below hbw4 (by omega : w.heap.size ≤ g) (r * 3) (.string (S nm)) (.int .i64 pm) (.slice ab bm.length cb)
            obtain ⟨wp, hwp⟩ : ∃ wp, wp = ((w4.setCell ⟨g, r * 3, none⟩ (.string (S nm))).setCell ⟨g, r * 3 + 1, none⟩ (.int .i64 pm)).setCell ⟨g, r * 3 + 2, none⟩ (.slice ab bm.length cb) := ⟨_, rfl⟩
            rw [← hwp] at hOp hbp
            have HWP := Lib.hid hwp
            clear hwp
            have HL := Lib.hid (show putL (ps.map Prod.fst) (nm, pm, bm) = (ps.set r ((nm, pm, bm), Value.slice ab bm.length cb)).map Prod.fst by rw [HPL.out, List.map_set]; rfl)
            go_wp2_with fail
            rw [← HWP.out]
            (with_reducible refine (own_any w.heap.size _ _ wp hOp (by simp; omega) hbp.size).mono ?_); rintro e w5 ⟨v5, qs, rfl, hm, h5, b5⟩
            obtain ⟨a5, c5, rfl⟩ := own_shape h5.row
            go_wp2_with fail
            go_ret2
            exact ⟨_, qs, rfl, by rw [HL.out]; exact hm, h5, hbp.trans b5⟩

end Go.Proofs.Ytkpdhpbnbpjceaa
