
/- Put of the program. No condition. -/
import Derived.Test.YtgpifaedcelnnaaFiDrop
namespace Go.Proofs.Ytgpifaedcelnnaa
open Go.RowKit

theorem fcs_ins (l : List Fl) (r : Nat) (f : Fl) : (fcs l).take (r * 2) ++ [.string (S f.1), .string (S f.2)] ++ (fcs l).drop (r * 2) = fcs (l.take r ++ f :: l.drop r) := by
  rw [(fcs_take l r).1, (fcs_take l r).2, fcs_append, fcs_cons]; simp

set_option maxRecDepth 20000 in
set_option maxHeartbeats 4000000 in
/-- 'Put'. -/
theorem fput_any (v : Value) (l : List Fl) (f : Fl) (w : World) (hl : Rf w v l) (hlen : l.length ≤ 100000) (hs : Fi.Ord l) (hf : f.1.length ≤ 9223372036854775807) :
    Calls Try.prog 16 #[v, .agg #[.string (S f.1), .string (S f.2)]] w fun e w' => ∃ v', e = .returned (.tuple #[v', .int .i64 (Fi.put l f).2]) ∧ w'.ownsRow w.heap.size 25 2 v' (Fi.put l f).1.length (fcs (Fi.put l f).1) ∧ Below w.heap.size w w' := by
  obtain ⟨nm, tx⟩ := f
  simp only at hf
  have HR := Lib.hid hl
  obtain ⟨a0, c0, rfl⟩ := hl.shape
  clear hl
  obtain ⟨w0, hw0⟩ : ∃ w0, w0 = w.alloc (.cells #[.string (S nm), .string (S tx)] 25) := ⟨_, rfl⟩
  have hb0 : Below w.heap.size w w0 := by rw [hw0]; exact (Below.refl _ _).alloc (Nat.le_refl _) _
  have hg0 : w0.heap[w.heap.size]? = some (.cells #[.string (S nm), .string (S tx)] 25 (0, 0)) := by rw [hw0]; exact heap_alloc_new w _
  have hs0 := hb0.size
  have HP := Lib.hid (place_any _ l nm w0 (HR.out.below' hb0) (by omega) hs)
  have hat := Fi.has_at hs nm
  rw [lb_is hs, show (Fi.names l).contains nm = Fi.has l nm from rfl] at HP
  have hle := Fi.lbn_le l nm
  have hpl : Fi.putL l (nm, tx) = if Fi.has l nm then l.set (lb (Fi.names l) nm) (nm, tx) else l.take (lb (Fi.names l) nm) ++ (nm, tx) :: l.drop (lb (Fi.names l) nm) := rfl
  have hpt : Fi.put l (nm, tx) = if Fi.okName nm = false then ([], 2) else if 4000 < tx.length ∨ (Fi.has l nm = false ∧ 32 ≤ l.length) then ([], 3) else (Fi.putL l (nm, tx), 0) := rfl
  obtain ⟨r, hr⟩ : ∃ r, r = lb (Fi.names l) nm := ⟨_, rfl⟩
  rw [← hr] at HP hat hle hpl
  obtain ⟨q, hq⟩ : ∃ q, q = Fi.has l nm := ⟨_, rfl⟩
  rw [← hq] at HP hat hpl hpt
  have HPL := Lib.hid hpl
  have HPT := Lib.hid hpt
  have HN := Lib.hid (fun w => name_any nm hf w)
  obtain ⟨isn, hisn⟩ : ∃ b, b = Fi.okName nm := ⟨_, rfl⟩
  rw [← hisn] at HN HPT
  have HW := Lib.hid hw0
  clear hr hq hpl hpt hisn hw0 hs
  cases isn
  · have HX := Lib.hid (show Fi.put l (nm, tx) = ([], 2) from HPT.out)
    rw [HX.out]
    go_enter Try.func16, Try.ntmps16
    go_wp2_with fail
    rw [← HW.out]
    (with_reducible refine HP.out.mono ?_); rintro e w2 ⟨rfl, b2⟩
    have hg2 := (b2.block _ (row_lt hg0)).trans hg0
    have x0 := pair_cell0 hg2
    go_wp2_with fail
    (with_reducible refine (HN.out _).mono ?_); rintro e w3 ⟨rfl, rfl⟩
    go_wp2_with fail
    go_ret2
    exact ⟨_, rfl, World.ownsRow_nil _ _ _ _, hb0.trans (b2.mono hs0)⟩
  · by_cases hbig : 4000 < tx.length
    · have HX := Lib.hid (show Fi.put l (nm, tx) = ([], 3) by rw [HPT.out, if_neg (by simp), if_pos (.inl hbig)])
      rw [HX.out]
      have hbi : (4000 : Int) < (tx.length : Int) := by omega
      go_enter Try.func16, Try.ntmps16
      go_wp2_with fail
      rw [← HW.out]
      (with_reducible refine HP.out.mono ?_); rintro e w2 ⟨rfl, b2⟩
      have hg2 := (b2.block _ (row_lt hg0)).trans hg0
      have x0 := pair_cell0 hg2
      have x1 := pair_cell1 hg2
      have hb2 := hb0.trans (b2.mono hs0)
      go_wp2_with fail
      (with_reducible refine (HN.out _).mono ?_); rintro e w3 ⟨rfl, rfl⟩
      go_wp2_with fail
      go_ret2
      exact ⟨_, rfl, World.ownsRow_nil _ _ _ _, hb2⟩
    · have hbi : decide ((4000 : Int) < (tx.length : Int)) = false := by simp; omega
      cases q
      · clear hat
        by_cases hfull : 32 ≤ l.length
        · have HX := Lib.hid (show Fi.put l (nm, tx) = ([], 3) by rw [HPT.out, if_neg (by simp), if_pos (.inr ⟨rfl, hfull⟩)])
          rw [HX.out]
          have hfi : (32 : Int) ≤ (l.length : Int) := by omega
          go_enter Try.func16, Try.ntmps16
          go_wp2_with fail
          rw [← HW.out]
          (with_reducible refine HP.out.mono ?_); rintro e w2 ⟨rfl, b2⟩
          have hg2 := (b2.block _ (row_lt hg0)).trans hg0
          have x0 := pair_cell0 hg2
          have x1 := pair_cell1 hg2
          have hb2 := hb0.trans (b2.mono hs0)
          go_wp2_with fail
          (with_reducible refine (HN.out _).mono ?_); rintro e w3 ⟨rfl, rfl⟩
          go_wp2_with fail
          go_ret2
          exact ⟨_, rfl, World.ownsRow_nil _ _ _ _, hb2⟩
        · have hfi : decide ((32 : Int) ≤ (l.length : Int)) = false := by simp; omega
          have HX := Lib.hid (show Fi.put l (nm, tx) = (l.take r ++ (nm, tx) :: l.drop r, 0) by rw [HPT.out, if_neg (by simp), if_neg (by simp; omega), HPL.out]; rfl)
          rw [HX.out]
          have hll : (l.take r ++ (nm, tx) :: l.drop r).length = l.length + 1 := by rw [List.length_append, List.length_cons, List.length_take, List.length_drop]; omega
          go_enter Try.func16, Try.ntmps16
          go_wp2_with fail
          rw [← HW.out]
          (with_reducible refine HP.out.mono ?_); rintro e w2 ⟨rfl, b2⟩
          have hg2 := (b2.block _ (row_lt hg0)).trans hg0
          have x0 := pair_cell0 hg2
          have x1 := pair_cell1 hg2
          have hb2 := hb0.trans (b2.mono hs0)
          go_wp2_with fail
          (with_reducible refine (HN.out _).mono ?_); rintro e w3 ⟨rfl, rfl⟩
          go_wp2_with fail
          (with_reducible refine (clone_any _ l w3 (HR.out.below' hb2) (by omega)).mono ?_); rintro e w4 ⟨v4, rfl, o4, b4⟩
          have hg4 := (b4.block _ (row_lt hg2)).trans hg2
          have y0 := pair_cell0 hg4
          have y1 := pair_cell1 hg4
          have o4w := own_mono o4 hb2.size
          have B4 := hb2.trans (b4.mono hb2.size)
          obtain ⟨a4, c4, rfl⟩ := own_shape o4
          go_wp2_with fail
          have hu4 := own_under o4
          have hI := insF_any l.length r hle w.heap.size _ (fcs l) [.string (S nm), .string (S tx)] (w4.alloc (.cells #[.string (S nm), .string (S tx)] 25)) w4.heap.size (o4w.alloc _) rfl (heap_alloc_new w4 _) (fun e => by have := hu4 _ e; omega)
            (fun u hu => (List.mem_append.1 hu).elim (fcs_one u) (fc_one u)) (by have := B4.size; simp; omega) (by omega)
          (with_reducible refine hI.mono ?_); rintro e w5 ⟨v5, rfl, o5, g5, _⟩
          rw [fcs_ins l r (nm, tx)] at o5
          obtain ⟨a5, c5, rfl⟩ := own_shape o5
          go_wp2_with fail
          go_ret2
          exact ⟨_, rfl, by rw [hll]; exact o5, (B4.alloc B4.size _).trans ((Below.refl w.heap.size _).grown g5 (by have := B4.size; simp; omega) (fun j hj => (o4w.lt j hj).1))⟩
      · obtain ⟨hrl, hn⟩ := of_decide_eq_true hat.symm
        clear hat
        have HX := Lib.hid (show Fi.put l (nm, tx) = (l.set r (nm, tx), 0) by rw [HPT.out, if_neg (by simp), if_neg (by simp; omega), HPL.out]; rfl)
        rw [HX.out]
        have hri : (r : Int) < (l.length : Int) := by omega
        go_enter Try.func16, Try.ntmps16
        go_wp2_with fail
        rw [← HW.out]
        (with_reducible refine HP.out.mono ?_); rintro e w2 ⟨rfl, b2⟩
        have hg2 := (b2.block _ (row_lt hg0)).trans hg0
        have x0 := pair_cell0 hg2
        have x1 := pair_cell1 hg2
        have hb2 := hb0.trans (b2.mono hs0)
        go_wp2_with fail
        (with_reducible refine (HN.out _).mono ?_); rintro e w3 ⟨rfl, rfl⟩
        go_wp2_with fail
        (with_reducible refine (clone_any _ l w3 (HR.out.below' hb2) (by omega)).mono ?_); rintro e w4 ⟨v4, rfl, o4, b4⟩
        have hg4 := (b4.block _ (row_lt hg2)).trans hg2
        have y0 := pair_cell0 hg4
        have y1 := pair_cell1 hg4
        have o4w := own_mono o4 hb2.size
        have B4 := hb2.trans (b4.mono hb2.size)
        obtain ⟨g4, c4, rfl⟩ := own_form9 o4 (by omega)
        obtain ⟨cur, hrow, hcs⟩ := own_row o4
        have hsz := own_size o4
        obtain ⟨b6, q6, e6, z0, z1⟩ := Rf.at (rf_own o4) (i := r) hrl
        cases e6
        simp only [Nat.zero_add] at z0 z1
        have z2 := row_free hrow (r * 2)
        have hset := row_set hrow (r * 2) (.string (S nm))
        have z4 := (row_cell hset (r * 2 + 1)).trans (show (cur.set! (r * 2) (.string (S nm)))[r * 2 + 1]? = some (.string (S l[r].2)) by
          rw [row_cell hrow] at z1
          simp [z1])
        have z5 := row_free hset (r * 2 + 1)
        clear hset
        go_wp2_with fail
        go_ret2
        have s1 := World.ownsRow.stored o4w (r * 2) (.string (S nm))
        have s2 := World.ownsRow.stored s1.1 (r * 2 + 1) (.string (S tx))
        rw [fcs_set l r hrl (nm, tx)] at s2
        have hgB := (o4w.lt g4 rfl).1
        exact ⟨_, rfl, by rw [List.length_set]; exact s2.1, (B4.setCell (p := ⟨g4, r * 2, none⟩) hgB _).setCell (p := ⟨g4, r * 2 + 1, none⟩) hgB _⟩

end Go.Proofs.Ytgpifaedcelnnaa
