
/- 'ItemsSpaces', walked: it answers true at every input. No condition. -/
import Derived.Test.YtcdclkgfgieppaaItLawB
import Derived.Test.YtcdclkgfgieppaaItLawC
import Derived.Test.YtcdclkgfgieppaaItSpP
import Derived.Lib.SlBytesConst
namespace Go.Proofs.Ytcdclkgfgieppaa
open Go.RowKit

theorem mod_small (z n : Int) (h : 0 ≤ z ∧ z ≤ 255) (hn : 0 < n) : ∃ m : Nat, (m : Int) < n ∧ (wrap64 z).tmod n = (m : Int) ∧ z % n = (m : Int) := by
  rw [Go.IntWalk.wrap64_in _ (by omega), Int.tmod_eq_emod_of_nonneg h.1]
  have h1 := Int.emod_nonneg z (show n ≠ 0 by omega)
  have h2 := Int.emod_lt_of_pos z hn
  exact ⟨(z % n).toNat, by omega, by omega, by omega⟩
def tab7 : List UInt8 := [97, 98, 99, 120, 121, 122, 32]
theorem conv9 (wr : World) (o : Obj) (c : UInt8) : (convert 51 9 (.slice (some ⟨wr.heap.size + 1, 0, none⟩) 1 1)).run Try.prog ((wr.alloc o).alloc (.cells #[.int .u8 c.toNat] 5)) = .ok (.string (S [c])) ((wr.alloc o).alloc (.cells #[.int .u8 c.toNat] 5)) := by
  refine conv_bytes (l := [c]) ⟨rfl, .inr ⟨wr.heap.size + 1, 0, 1, rfl, fun _ => by simp, fun j u hj => ?_, by simp⟩⟩
  have e := heap_alloc_new (wr.alloc o) (.cells #[.int .u8 c.toNat] 5)
  rw [show (wr.alloc o).heap.size = wr.heap.size + 1 by simp] at e
  rw [Nat.zero_add, cell_of_row _ (wr.heap.size + 1) _ _ 5 (0, 0) e]
  simpa [Lib.byteCells] using hj

theorem tab7_at (W : World) (m : Nat) (hm : m < 7) : ∃ c : UInt8, (Lx.letter c = true ∨ c = 32) ∧
    (W.alloc (.cells #[.int .u8 97, .int .u8 98, .int .u8 99, .int .u8 120, .int .u8 121, .int .u8 122, .int .u8 32] 5 (7, 8))).cell? ⟨W.heap.size, m, none⟩ = some (.int .u8 c.toNat) := by
  refine ⟨tab7.getD m 0, ?_, ?_⟩
  · have : m = 0 ∨ m = 1 ∨ m = 2 ∨ m = 3 ∨ m = 4 ∨ m = 5 ∨ m = 6 := by omega
    rcases this with rfl | rfl | rfl | rfl | rfl | rfl | rfl
    all_goals first
      | (left; rfl)
      | (right; rfl)
  · have : m = 0 ∨ m = 1 ∨ m = 2 ∨ m = 3 ∨ m = 4 ∨ m = 5 ∨ m = 6 := by omega
    rcases this with rfl | rfl | rfl | rfl | rfl | rfl | rfl <;> (rw [cell_of_row _ W.heap.size _ _ 5 (7, 8) (heap_alloc_new W _)]; rfl)
theorem name_letters (m : Nat) (hm : m < 10) : (It.nameOf (m + 4)).all Lx.letter = true ∧ It.nameOf (m + 4) ≠ [] ∧ It.kindOf (It.nameOf (m + 4)) = m + 4 ∧ (It.nameOf (m + 4)).length ≤ 20 := by
  refine ⟨?_, ?_, It.kindOf_name _ (by omega) (by omega), nameOf_le _⟩
  · have : ∀ j : Fin 10, (It.nameOf (j.val + 4)).all Lx.letter = true := by decide
    exact this ⟨m, hm⟩
  · have : ∀ j : Fin 10, It.nameOf (j.val + 4) ≠ [] := by decide
    exact this ⟨m, hm⟩

theorem u8_range {z : Int} (h : (Lit.int .u8 z).wf = true) : 0 ≤ z ∧ z ≤ 255 := by
  simp [Lit.wf, IntKind.min, IntKind.max, IntKind.signed, IntKind.bits] at h
  exact h
theorem said_len (nm k : List UInt8) : (It.said nm k).1.length + (It.said nm k).2.length = 1 := by
  unfold It.said
  split <;> rfl
/-- What the walk needs of one of the three texts. -/
theorem way_facts {X nm k : List UInt8} {A N : List Lx.Tok} (hX : X.length ≤ 100) (hp : It.parsed (Lx.lex X) = It.said nm k) (hs : It.said nm k = (A, N)) :
    (Lx.lex X).length ≤ 100 ∧ (∀ t ∈ Lx.lex X, t.2.length ≤ 100000) ∧ (∀ t ∈ Lx.lex X, (Lit.int .i64 t.1).wf = true) ∧ It.parsed (Lx.lex X) = (A, N) :=
  ⟨Nat.le_trans (lex_len X) hX, fun t ht => Nat.le_trans (lex_each X t ht) (by omega), lex_kinds X, hp.trans hs⟩

set_option maxRecDepth 20000 in
set_option maxHeartbeats 4000000 in
/-- 'ItemsSpaces'. -/
theorem itemsSpaces_any (s : List UInt8) (z : Int) (w : World) (hs : s.length ≤ 9223372036854775807) (hz : 0 ≤ z ∧ z ≤ 255) :
    Calls Try.prog 7 #[.string (S s), .int .u8 z] w fun e w' => e = .returned (.bool true) ∧ Below w.heap.size w w' := by
  have hcv := fun (w : World) (C : Array Value) (n c : Nat) => Go.Lib.run_convert_bytes_const (P := Try.prog) w 51 5 C n c Try.underlying51 Try.underlying5
  go_enter Try.func7, Try.ntmps7
  simp only [S_lit]
  go_wp2_with fail
  go_loopw [5, 6] (fun ws i wr => ∃ (k : Nat) (t : List UInt8), k ≤ s.length ∧ k ≤ 40 ∧ i = .int .i64 k ∧ ws = .string (S t) ∧ t.length = k ∧ Hid (∀ c ∈ t, Lx.letter c = true ∨ c = 32) ∧ Below w.heap.size w wr) (fun _ i _ => s.length - (intOf i).toNat)
  case atStart => exact ⟨0, [], Nat.zero_le _, Nat.zero_le _, rfl, rfl, rfl, Lib.hid (by simp), Below.refl _ _⟩
  case round =>
    obtain ⟨k, t, hk, hk2, rfl, rfl, ht, HT, hb⟩ := hrel
    by_cases hin : k < s.length ∧ k < 40
    · obtain ⟨hlt, hlm⟩ := hin
      · obtain ⟨m, hm, hmod, _⟩ := mod_small (s[k].toNat : Int) 7 (by have := s[k].toNat_lt; omega) (by decide)
        obtain ⟨c, hc, hread⟩ := tab7_at wr m (by omega)
        have HC := Lib.hid hc
        have hk40 : (k : Int) < 40 := by omega
        have hks : (k : Int) < (s.length : Int) := by omega
        have hm0 : (0 : Int) ≤ (m : Int) := by omega
        clear hc
        have hcv1 := fun o => conv9 wr o c
        have hcat : ¬ 9223372036854775807 < List.length t + 1 := by omega
        go_wp2_with fail
        go_roundw
        case rel => exact ⟨k + 1, t ++ [c], by omega, by omega, by go_num, rfl, by simp [ht], Lib.hid (fun d hd => by
          rcases List.mem_append.1 hd with h | h
          · exact HT.out d h
          · simp only [List.mem_singleton] at h; rw [h]; exact HC.out), (hb.alloc hb.size _).alloc (by have := hb.size; simp; omega) _⟩
        case measure => simp [intOf]; omega
    · have htl : t.length ≤ 40 := by omega
      obtain ⟨m, hm, hmod, hmod2⟩ := mod_small z 10 hz (by decide)
      obtain ⟨hn1, hn2, hn3, hn4⟩ := name_letters m (by omega)
      have hm0 : (0 : Int) ≤ (m : Int) := by omega
      have hm13 : (m : Int) < 13 := by omega
      have hstop : k = s.length ∨ (k < s.length ∧ k = 40) := by omega
      have HN1 := Lib.hid hn1
      have HN2 := Lib.hid hn2
      have HN3 := Lib.hid hn3
      clear hn1 hn2 hn3 hcv
      rcases hstop with rfl | ⟨h, rfl⟩
      · go_wp2_with fail
        (with_reducible refine (refNames_any _).mono ?_); rintro e w1 ⟨gn, rfl, hgn, b1⟩
        have cn := (row_cell hgn m).trans (nameCells_at (show m < 13 by omega))
        have B1 := hb.trans (b1.mono hb.size)
        obtain ⟨nm, hnm⟩ : ∃ nm, nm = It.nameOf (m + 4) := ⟨_, rfl⟩
        rw [← hnm] at cn hn4 HN1 HN2 HN3
        clear hnm
        obtain ⟨A, N, hsd⟩ : ∃ A N, It.said nm t = (A, N) := ⟨_, _, rfl⟩
        have hAN := said_len nm t
        rw [hsd] at hAN
        simp only at hAN
        have hAN2 : (A.length : Int) + (N.length : Int) = 1 := by omega
        have HK4 : 4 ≤ It.kindOf nm := by rw [HN3.out]; omega
        have HK13 : It.kindOf nm ≤ 13 := by rw [HN3.out]; omega
        have X1 := Lib.hid (way_facts (X := 92 :: (nm ++ 123 :: (t ++ [125]))) (by simp; omega) ((congrArg (fun x => It.parsed (Lx.lex x)) (by simp [It.way1])).trans (It.parsed_way1 HN1.out HN2.out HK4 HK13 HT.out)) hsd)
        have X2 := Lib.hid (way_facts (X := 92 :: (nm ++ 32 :: 32 :: 123 :: 10 :: 32 :: (t ++ [10, 125]))) (by simp; omega) ((congrArg (fun x => It.parsed (Lx.lex x)) (by simp [It.way2])).trans (It.parsed_way2 HN1.out HN2.out HK4 HK13 HT.out)) hsd)
        have X3 := Lib.hid (way_facts (X := 92 :: (nm ++ 32 :: 123 :: 123 :: (t ++ [125, 125]))) (by simp; omega) ((congrArg (fun x => It.parsed (Lx.lex x)) (by simp [It.way3])).trans (It.parsed_way3 HN1.out HN2.out HK4 HK13 HT.out)) hsd)
        clear hsd HN1 HN2 HN3 HK4 HK13 HT
        have hA : A.length ≤ 1 := by omega
        go_wp2_with fail
        (with_reducible refine (lex_any _ (by simp; omega) _).mono ?_); rintro e w2 ⟨v2, rfl, o2, b2⟩
        have r2 : Rt w2 v2 (Lx.lex (92 :: (nm ++ 123 :: (t ++ [125])))) := rt_of_own9 o2
        have B2 := B1.trans (b2.mono B1.size)
        clear o2 b2 B1
        go_wp2_with fail
        (with_reducible refine (parse9_any _ _ _ r2 (Nat.le_trans X1.out.1 (by decide)) X1.out.2.1 X1.out.2.2.1).mono ?_); rintro e w3 ⟨va, vx, rfl, oa, ox, b3⟩
        rw [X1.out.2.2.2] at oa ox
        have ra3 := rt_of_own9 oa
        obtain ⟨aa, ca, rfl⟩ := own_shape oa
        obtain ⟨ax, cx, rfl⟩ := own_shape ox
        have B3 := B2.trans (b3.mono B2.size)
        clear oa ox b3 B2 r2 X1
        go_wp2_with fail
        (with_reducible refine (lex_any _ (by simp; omega) _).mono ?_); rintro e w4 ⟨v4, rfl, o4, b4⟩
        have r4 : Rt w4 v4 (Lx.lex (92 :: (nm ++ 32 :: 32 :: 123 :: 10 :: 32 :: (t ++ [10, 125])))) := rt_of_own9 o4
        have ra4 := ra3.below' b4
        have B4 := B3.trans (b4.mono B3.size)
        clear o4 b4 B3 ra3
        go_wp2_with fail
        (with_reducible refine (parse9_any _ _ _ r4 (Nat.le_trans X2.out.1 (by decide)) X2.out.2.1 X2.out.2.2.1).mono ?_); rintro e w5 ⟨vb, vy, rfl, ob, oy, b5⟩
        rw [X2.out.2.2.2] at ob oy
        have rb5 := rt_of_own9 ob
        obtain ⟨ay, cy, rfl⟩ := own_shape oy
        have ra5 := ra4.below' b5
        have B5 := B4.trans (b5.mono B4.size)
        clear ob oy b5 B4 r4 ra4 X2
        go_wp2_with fail
        (with_reducible refine (lex_any _ (by simp; omega) _).mono ?_); rintro e w6 ⟨v6, rfl, o6, b6⟩
        have r6 : Rt w6 v6 (Lx.lex (92 :: (nm ++ 32 :: 123 :: 123 :: (t ++ [125, 125])))) := rt_of_own9 o6
        have ra6 := ra5.below' b6
        have rb6 := rb5.below' b6
        have B6 := B5.trans (b6.mono B5.size)
        clear o6 b6 B5 ra5 rb5
        go_wp2_with fail
        (with_reducible refine (parse9_any _ _ _ r6 (Nat.le_trans X3.out.1 (by decide)) X3.out.2.1 X3.out.2.2.1).mono ?_); rintro e w7 ⟨vd, vz, rfl, od, oz, b7⟩
        rw [X3.out.2.2.2] at od oz
        have rd7 := rt_of_own9 od
        obtain ⟨az, cz, rfl⟩ := own_shape oz
        have ra7 := ra6.below' b7
        have rb7 := rb6.below' b7
        have B7 := B6.trans (b7.mono B6.size)
        clear od oz b7 B6 r6 ra6 rb6 X3
        go_wp2_with fail
        (with_reducible refine (refsIt_any _ A _ ra7 (by omega)).mono ?_); rintro e w8 ⟨v8, rfl, o8, b8⟩
        have r8 := rt_of_own9 o8
        have ra8 := ra7.below' b8
        have rb8 := rb7.below' b8
        have rd8 := rd7.below' b8
        have B8 := B7.trans (b8.mono B7.size)
        clear o8 b8 B7 ra7 rb7 rd7
        go_wp2_with fail
        (with_reducible refine (refsIt_any _ A _ rb8 (by omega)).mono ?_); rintro e w9 ⟨v9, rfl, o9, b9⟩
        have r9 := rt_of_own9 o9
        have r8a := r8.below' b9
        have ra9 := ra8.below' b9
        have rd9 := rd8.below' b9
        have B9 := B8.trans (b9.mono B8.size)
        clear o9 b9 B8 ra8 rb8 rd8 r8
        go_wp2_with fail
        (with_reducible refine (sameIt_any _ _ A A _ r8a r9 (by omega) (by omega)).mono ?_); rintro e wa ⟨rfl, ba⟩
        rw [show (A == A) = true by simp]
        have raa := ra9.below' ba
        have rda := rd9.below' ba
        have Ba := B9.trans (ba.mono B9.size)
        clear ba B9 ra9 rd9 r8a r9
        go_wp2_with fail
        (with_reducible refine (refsIt_any _ A _ raa (by omega)).mono ?_); rintro e wb ⟨vk, rfl, ok, bb⟩
        have rkb := rt_of_own9 ok
        have rdb := rda.below' bb
        have Bb := Ba.trans (bb.mono Ba.size)
        clear ok bb Ba raa rda
        go_wp2_with fail
        (with_reducible refine (refsIt_any _ A _ rdb (by omega)).mono ?_); rintro e wc ⟨vl, rfl, ol, bc⟩
        have rlc := rt_of_own9 ol
        have rkc := rkb.below' bc
        have Bc := Bb.trans (bc.mono Bb.size)
        clear ol bc Bb rkb rdb
        go_wp2_with fail
        (with_reducible refine (sameIt_any _ _ A A _ rkc rlc (by omega) (by omega)).mono ?_); rintro e wd ⟨rfl, bd⟩
        rw [show (A == A) = true by simp]
        have Bd := Bc.trans (bd.mono Bc.size)
        clear bd Bc rkc rlc
        go_wp2_with fail
        (with_reducible refine (itFixed_any _).mono ?_); rintro e wh ⟨rfl, bh⟩
        go_wp2_with fail
        go_ret
        exact ⟨rfl, Bd.trans (bh.mono Bd.size)⟩
      · go_wp2_with fail
        (with_reducible refine (refNames_any _).mono ?_); rintro e w1 ⟨gn, rfl, hgn, b1⟩
        have cn := (row_cell hgn m).trans (nameCells_at (show m < 13 by omega))
        have B1 := hb.trans (b1.mono hb.size)
        obtain ⟨nm, hnm⟩ : ∃ nm, nm = It.nameOf (m + 4) := ⟨_, rfl⟩
        rw [← hnm] at cn hn4 HN1 HN2 HN3
        clear hnm
        obtain ⟨A, N, hsd⟩ : ∃ A N, It.said nm t = (A, N) := ⟨_, _, rfl⟩
        have hAN := said_len nm t
        rw [hsd] at hAN
        simp only at hAN
        have hAN2 : (A.length : Int) + (N.length : Int) = 1 := by omega
        have HK4 : 4 ≤ It.kindOf nm := by rw [HN3.out]; omega
        have HK13 : It.kindOf nm ≤ 13 := by rw [HN3.out]; omega
        have X1 := Lib.hid (way_facts (X := 92 :: (nm ++ 123 :: (t ++ [125]))) (by simp; omega) ((congrArg (fun x => It.parsed (Lx.lex x)) (by simp [It.way1])).trans (It.parsed_way1 HN1.out HN2.out HK4 HK13 HT.out)) hsd)
        have X2 := Lib.hid (way_facts (X := 92 :: (nm ++ 32 :: 32 :: 123 :: 10 :: 32 :: (t ++ [10, 125]))) (by simp; omega) ((congrArg (fun x => It.parsed (Lx.lex x)) (by simp [It.way2])).trans (It.parsed_way2 HN1.out HN2.out HK4 HK13 HT.out)) hsd)
        have X3 := Lib.hid (way_facts (X := 92 :: (nm ++ 32 :: 123 :: 123 :: (t ++ [125, 125]))) (by simp; omega) ((congrArg (fun x => It.parsed (Lx.lex x)) (by simp [It.way3])).trans (It.parsed_way3 HN1.out HN2.out HK4 HK13 HT.out)) hsd)
        clear hsd HN1 HN2 HN3 HK4 HK13 HT
        have hA : A.length ≤ 1 := by omega
        go_wp2_with fail
        (with_reducible refine (lex_any _ (by simp; omega) _).mono ?_); rintro e w2 ⟨v2, rfl, o2, b2⟩
        have r2 : Rt w2 v2 (Lx.lex (92 :: (nm ++ 123 :: (t ++ [125])))) := rt_of_own9 o2
        have B2 := B1.trans (b2.mono B1.size)
        clear o2 b2 B1
        go_wp2_with fail
        (with_reducible refine (parse9_any _ _ _ r2 (Nat.le_trans X1.out.1 (by decide)) X1.out.2.1 X1.out.2.2.1).mono ?_); rintro e w3 ⟨va, vx, rfl, oa, ox, b3⟩
        rw [X1.out.2.2.2] at oa ox
        have ra3 := rt_of_own9 oa
        obtain ⟨aa, ca, rfl⟩ := own_shape oa
        obtain ⟨ax, cx, rfl⟩ := own_shape ox
        have B3 := B2.trans (b3.mono B2.size)
        clear oa ox b3 B2 r2 X1
        go_wp2_with fail
        (with_reducible refine (lex_any _ (by simp; omega) _).mono ?_); rintro e w4 ⟨v4, rfl, o4, b4⟩
        have r4 : Rt w4 v4 (Lx.lex (92 :: (nm ++ 32 :: 32 :: 123 :: 10 :: 32 :: (t ++ [10, 125])))) := rt_of_own9 o4
        have ra4 := ra3.below' b4
        have B4 := B3.trans (b4.mono B3.size)
        clear o4 b4 B3 ra3
        go_wp2_with fail
        (with_reducible refine (parse9_any _ _ _ r4 (Nat.le_trans X2.out.1 (by decide)) X2.out.2.1 X2.out.2.2.1).mono ?_); rintro e w5 ⟨vb, vy, rfl, ob, oy, b5⟩
        rw [X2.out.2.2.2] at ob oy
        have rb5 := rt_of_own9 ob
        obtain ⟨ay, cy, rfl⟩ := own_shape oy
        have ra5 := ra4.below' b5
        have B5 := B4.trans (b5.mono B4.size)
        clear ob oy b5 B4 r4 ra4 X2
        go_wp2_with fail
        (with_reducible refine (lex_any _ (by simp; omega) _).mono ?_); rintro e w6 ⟨v6, rfl, o6, b6⟩
        have r6 : Rt w6 v6 (Lx.lex (92 :: (nm ++ 32 :: 123 :: 123 :: (t ++ [125, 125])))) := rt_of_own9 o6
        have ra6 := ra5.below' b6
        have rb6 := rb5.below' b6
        have B6 := B5.trans (b6.mono B5.size)
        clear o6 b6 B5 ra5 rb5
        go_wp2_with fail
        (with_reducible refine (parse9_any _ _ _ r6 (Nat.le_trans X3.out.1 (by decide)) X3.out.2.1 X3.out.2.2.1).mono ?_); rintro e w7 ⟨vd, vz, rfl, od, oz, b7⟩
        rw [X3.out.2.2.2] at od oz
        have rd7 := rt_of_own9 od
        obtain ⟨az, cz, rfl⟩ := own_shape oz
        have ra7 := ra6.below' b7
        have rb7 := rb6.below' b7
        have B7 := B6.trans (b7.mono B6.size)
        clear od oz b7 B6 r6 ra6 rb6 X3
        go_wp2_with fail
        (with_reducible refine (refsIt_any _ A _ ra7 (by omega)).mono ?_); rintro e w8 ⟨v8, rfl, o8, b8⟩
        have r8 := rt_of_own9 o8
        have ra8 := ra7.below' b8
        have rb8 := rb7.below' b8
        have rd8 := rd7.below' b8
        have B8 := B7.trans (b8.mono B7.size)
        clear o8 b8 B7 ra7 rb7 rd7
        go_wp2_with fail
        (with_reducible refine (refsIt_any _ A _ rb8 (by omega)).mono ?_); rintro e w9 ⟨v9, rfl, o9, b9⟩
        have r9 := rt_of_own9 o9
        have r8a := r8.below' b9
        have ra9 := ra8.below' b9
        have rd9 := rd8.below' b9
        have B9 := B8.trans (b9.mono B8.size)
        clear o9 b9 B8 ra8 rb8 rd8 r8
        go_wp2_with fail
        (with_reducible refine (sameIt_any _ _ A A _ r8a r9 (by omega) (by omega)).mono ?_); rintro e wa ⟨rfl, ba⟩
        rw [show (A == A) = true by simp]
        have raa := ra9.below' ba
        have rda := rd9.below' ba
        have Ba := B9.trans (ba.mono B9.size)
        clear ba B9 ra9 rd9 r8a r9
        go_wp2_with fail
        (with_reducible refine (refsIt_any _ A _ raa (by omega)).mono ?_); rintro e wb ⟨vk, rfl, ok, bb⟩
        have rkb := rt_of_own9 ok
        have rdb := rda.below' bb
        have Bb := Ba.trans (bb.mono Ba.size)
        clear ok bb Ba raa rda
        go_wp2_with fail
        (with_reducible refine (refsIt_any _ A _ rdb (by omega)).mono ?_); rintro e wc ⟨vl, rfl, ol, bc⟩
        have rlc := rt_of_own9 ol
        have rkc := rkb.below' bc
        have Bc := Bb.trans (bc.mono Bb.size)
        clear ol bc Bb rkb rdb
        go_wp2_with fail
        (with_reducible refine (sameIt_any _ _ A A _ rkc rlc (by omega) (by omega)).mono ?_); rintro e wd ⟨rfl, bd⟩
        rw [show (A == A) = true by simp]
        have Bd := Bc.trans (bd.mono Bc.size)
        clear bd Bc rkc rlc
        go_wp2_with fail
        (with_reducible refine (itFixed_any _).mono ?_); rintro e wh ⟨rfl, bh⟩
        go_wp2_with fail
        go_ret
        exact ⟨rfl, Bd.trans (bh.mono Bd.size)⟩

end Go.Proofs.Ytcdclkgfgieppaa
