
/- 'LexPlain', walked: it answers true at every input. No condition. -/
import Derived.Test.YtkbdfckmmjkghaaLexTells
import Derived.Test.YtkbdfckmmjkghaaLexLawB
import Derived.Lib.SlBytesConst
namespace Go.Proofs.Ytkbdfckmmjkghaa
open Go.RowKit

theorem mod12 (c : UInt8) : ∃ m : Nat, m < 12 ∧ (wrap64 (c.toNat : Int)).tmod 12 = (m : Int) := by
  have h := c.toNat_lt
  refine ⟨c.toNat % 12, Nat.mod_lt _ (by decide), ?_⟩
  rw [Go.IntWalk.wrap64_in _ (by omega)]
  rw [Int.tmod_eq_emod_of_nonneg (by omega)]
  omega

def abc : List UInt8 := [97, 98, 99, 120, 121, 122, 65, 66, 67, 88, 89, 90]

theorem conv1 (wr : World) (o : Obj) (c : UInt8) : (convert 39 9 (.slice (some ⟨wr.heap.size + 1, 0, none⟩) 1 1)).run Try.prog ((wr.alloc o).alloc (.cells #[.int .u8 c.toNat] 5)) = .ok (.string (S [c])) ((wr.alloc o).alloc (.cells #[.int .u8 c.toNat] 5)) := by
  refine conv_bytes (l := [c]) ⟨rfl, .inr ⟨wr.heap.size + 1, 0, 1, rfl, fun _ => by simp, fun j u hj => ?_⟩⟩
  have e := heap_alloc_new (wr.alloc o) (.cells #[.int .u8 c.toNat] 5)
  rw [show (wr.alloc o).heap.size = wr.heap.size + 1 by simp] at e
  rw [Nat.zero_add, cell_of_row _ (wr.heap.size + 1) _ _ 5 (0, 0) e]
  simpa [Lib.byteCells] using hj

theorem abc_at (W : World) (m : Nat) (hm : m < 12) : ∃ c : UInt8, Lx.letter c = true ∧
    (W.alloc (.cells #[.int .u8 97, .int .u8 98, .int .u8 99, .int .u8 120, .int .u8 121, .int .u8 122, .int .u8 65, .int .u8 66, .int .u8 67, .int .u8 88, .int .u8 89, .int .u8 90] 5 (12, 13))).cell? ⟨W.heap.size, m, none⟩ = some (.int .u8 c.toNat) := by
  refine ⟨abc.getD m 0, ?_, ?_⟩
  · have : m = 0 ∨ m = 1 ∨ m = 2 ∨ m = 3 ∨ m = 4 ∨ m = 5 ∨ m = 6 ∨ m = 7 ∨ m = 8 ∨ m = 9 ∨ m = 10 ∨ m = 11 := by omega
    rcases this with rfl | rfl | rfl | rfl | rfl | rfl | rfl | rfl | rfl | rfl | rfl | rfl <;> rfl
  · have : m = 0 ∨ m = 1 ∨ m = 2 ∨ m = 3 ∨ m = 4 ∨ m = 5 ∨ m = 6 ∨ m = 7 ∨ m = 8 ∨ m = 9 ∨ m = 10 ∨ m = 11 := by omega
    rcases this with rfl | rfl | rfl | rfl | rfl | rfl | rfl | rfl | rfl | rfl | rfl | rfl <;> (rw [cell_of_row _ W.heap.size _ _ 5 (12, 13) (heap_alloc_new W _)]; rfl)

set_option maxRecDepth 20000 in
set_option maxHeartbeats 1600000 in
theorem lexPlain_any (v : Value) (l : List UInt8) (w : World) (hl : Rd w 1 v l.length (Lib.byteCells l)) :
    Calls Try.prog 7 #[v] w fun e w' => e = .returned (.bool true) ∧ Below w.heap.size w w' := by
  obtain ⟨a0, c0, rfl⟩ := hl.shape
  go_enter Try.func7, Try.ntmps7
  simp only [S_lit]
  have hcv := fun (w : World) (C : Array Value) (n c : Nat) => Go.Lib.run_convert_bytes_const (P := Try.prog) w 39 5 C n c Try.underlying39 Try.underlying5
  go_wp2_with fail
  go_loopw [3, 4] (fun ws i wr => ∃ (k : Nat) (t : List UInt8), k ≤ l.length ∧ k ≤ 30 ∧ i = .int .i64 k ∧ ws = .string (S t) ∧ t.length = k ∧ Hid (t.all Lx.letter = true) ∧ Below w.heap.size w wr) (fun _ i _ => l.length - (intOf i).toNat)
  case atStart => exact ⟨0, [], Nat.zero_le _, Nat.zero_le _, rfl, rfl, rfl, rfl, Below.refl _ _⟩
  case round =>
    obtain ⟨k, t, hk, hk2, rfl, rfl, ht, hall, hb⟩ := hrel
    by_cases hlt : k < l.length
    · by_cases hlm : k < 30
      · have hr := hl.below' hb
        clear hl
        rcases hr.2 with ⟨_, h0⟩ | ⟨b, o, cap, hv, hblt, hc⟩
        · omega
        · cases hv
          have hcell := hc k (.int .u8 l[k].toNat) (by simp [Lib.byteCells, hlt])
          clear hr hc
          have hcell2 := fun o => Go.Lib.cell?_alloc_marked (W := wr) o hcell
          obtain ⟨m, hm, hmod⟩ := mod12 l[k]
          obtain ⟨c, hc, hread⟩ := abc_at wr m hm
          have HC := Lib.hid hc
          clear hc
          have hcv1 := fun o => conv1 wr o c
          go_wp2_with fail
          go_roundw
          case rel => exact ⟨k + 1, t ++ [c], by omega, by omega, by go_num, rfl, by simp [ht], by show _ = true; simp only [List.all_append, hall.out, HC.out, List.all_cons, List.all_nil]; rfl, (hb.alloc hb.size _).alloc (by have := hb.size; simp; omega) _⟩
          case measure => simp [intOf]; omega
      · obtain rfl : k = 30 := by omega
        clear hl hcv
        cases he : t.isEmpty
        · have hne : t ≠ [] := by rintro rfl; simp at he
          have L1 := Lx.lex_word hall.out hne
          have L2 := Lx.lex_command hall.out hne
          have L3 := Lx.lex_braces hall.out hne
          have HL1 := Lib.hid L1
          have HL2 := Lib.hid L2
          have HL3 := Lib.hid L3
          clear L1 L2 L3 hne
          go_wp2_with fail
          (with_reducible refine (lex_any _ (by omega) _).mono ?_); rintro e w1 ⟨v1, rfl, o1, b1⟩
          rw [HL1.out] at o1
          have r1 := rt_of_own o1
          clear o1
          go_wp2_with fail
          (with_reducible refine (lex_any _ (by simp; omega) _).mono ?_); rintro e w2 ⟨v2, rfl, o2, b2⟩
          have o2 : w2.ownsRow _ _ _ _ (Lx.lex (92 :: t)).length (tcs (Lx.lex (92 :: t))) := o2
          rw [HL2.out] at o2
          have r2 := rt_of_own o2
          have r1a := r1.below' b2
          clear o2 r1
          go_wp2_with fail
          (with_reducible refine (lex_any _ (by simp; omega) _).mono ?_); rintro e w3 ⟨v3, rfl, o3, b3⟩
          have o3 : w3.ownsRow _ _ _ _ (Lx.lex (123 :: t ++ [32, 125])).length (tcs (Lx.lex (123 :: t ++ [32, 125]))) := o3
          rw [HL3.out] at o3
          have r3 := rt_of_own o3
          have r1b := r1a.below' b3
          have r2b := r2.below' b3
          clear o3 r1a r2
          go_wp2_with fail
          (with_reducible refine (refs_any _ _ _ r1b (by simp)).mono ?_); rintro e w4 ⟨v4, rfl, o4, b4⟩
          have r4 := rt_of_own o4
          have r2c := r2b.below' b4
          have r3c := r3.below' b4
          clear o4 r1b r2b r3
          go_wp2_with fail
          have m5 : Rt (w4.alloc (.cells #[.int .i64 1, .string (S t)] 40)) (.slice (some ⟨w4.heap.size, 0, none⟩) 1 1) [(1, t)] := rt_made w4 [(1, t)] _
          have al5 := (Below.refl w4.heap.size w4).alloc (Nat.le_refl _) (.cells #[.int .i64 1, .string (S t)] 40)
          (with_reducible refine (same_any _ _ _ [(1, t)] _ (r4.below' al5) m5 (by simp) (by simp)).mono ?_); rintro e w5 ⟨rfl, b5⟩
          rw [show (([(1, t)] : List Lx.Tok) == [(1, t)]) = true from beq_self_eq_true _]
          have bb5 := al5.trans (b5.mono (by simp))
          have r2d := r2c.below' bb5
          have r3d := r3c.below' bb5
          clear r4 r2c r3c m5 al5
          go_wp2_with fail
          (with_reducible refine (refs_any _ _ _ r2d (by simp)).mono ?_); rintro e w6 ⟨v6, rfl, o6, b6⟩
          have r6 := rt_of_own o6
          have r3e := r3d.below' b6
          clear o6 r2d r3d
          go_wp2_with fail
          have m7 : Rt (w6.alloc (.cells #[.int .i64 4, .string (S t)] 40)) (.slice (some ⟨w6.heap.size, 0, none⟩) 1 1) [(4, t)] := rt_made w6 [(4, t)] _
          have al7 := (Below.refl w6.heap.size w6).alloc (Nat.le_refl _) (.cells #[.int .i64 4, .string (S t)] 40)
          (with_reducible refine (same_any _ _ _ [(4, t)] _ (r6.below' al7) m7 (by simp) (by simp)).mono ?_); rintro e w7 ⟨rfl, b7⟩
          rw [show (([(4, t)] : List Lx.Tok) == [(4, t)]) = true from beq_self_eq_true _]
          have bb7 := al7.trans (b7.mono (by simp))
          have r3f := r3e.below' bb7
          clear r6 r3e m7 al7
          go_wp2_with fail
          (with_reducible refine (refs_any _ _ _ r3f (by simp)).mono ?_); rintro e w8 ⟨v8, rfl, o8, b8⟩
          have r8 := rt_of_own o8
          clear o8 r3f
          go_wp2_with fail
          have m9 : Rt (w8.alloc (.cells #[.int .i64 5, .string (S []), .int .i64 1, .string (S t), .int .i64 2, .string (S []), .int .i64 6, .string (S [])] 40)) (.slice (some ⟨w8.heap.size, 0, none⟩) 4 4) [(5, []), (1, t), (2, []), (6, [])] := rt_made w8 [(5, []), (1, t), (2, []), (6, [])] _
          have al9 := (Below.refl w8.heap.size w8).alloc (Nat.le_refl _) (.cells #[.int .i64 5, .string (S []), .int .i64 1, .string (S t), .int .i64 2, .string (S []), .int .i64 6, .string (S [])] 40)
          (with_reducible refine (same_any _ _ _ [(5, []), (1, t), (2, []), (6, [])] _ (r8.below' al9) m9 (by simp) (by simp)).mono ?_); rintro e w9 ⟨rfl, b9⟩
          rw [show (([(5, []), (1, t), (2, []), (6, [])] : List Lx.Tok) == [(5, []), (1, t), (2, []), (6, [])]) = true from beq_self_eq_true _]
          have bb9 := al9.trans (b9.mono (by simp))
          clear r8 m9 al9
          go_wp2_with fail
          (with_reducible refine (fixed_any _).mono ?_); rintro e wa ⟨rfl, ba⟩
          go_wp2_with fail
          go_ret
          have h1 := hb.trans (b1.mono hb.size)
          have h2 := (h1.trans (b2.mono h1.size)).trans (b3.mono (Nat.le_trans h1.size b2.size))
          have h3 := (h2.trans (b4.mono h2.size)).trans (bb5.mono (Nat.le_trans h2.size b4.size))
          have h4 := (h3.trans (b6.mono h3.size)).trans (bb7.mono (Nat.le_trans h3.size b6.size))
          have h5 := (h4.trans (b8.mono h4.size)).trans (bb9.mono (Nat.le_trans h4.size b8.size))
          exact ⟨rfl, h5.trans (ba.mono h5.size)⟩
        · exfalso
          have he : t = [] := by simpa using he
          rw [he] at ht
          simp at ht
    · obtain rfl : k = l.length := by omega
      clear hl hcv
      cases he : t.isEmpty
      · have hne : t ≠ [] := by rintro rfl; simp at he
        have L1 := Lx.lex_word hall.out hne
        have L2 := Lx.lex_command hall.out hne
        have L3 := Lx.lex_braces hall.out hne
        have HL1 := Lib.hid L1
        have HL2 := Lib.hid L2
        have HL3 := Lib.hid L3
        clear L1 L2 L3 hne
        go_wp2_with fail
        (with_reducible refine (lex_any _ (by omega) _).mono ?_); rintro e w1 ⟨v1, rfl, o1, b1⟩
        rw [HL1.out] at o1
        have r1 := rt_of_own o1
        clear o1
        go_wp2_with fail
        (with_reducible refine (lex_any _ (by simp; omega) _).mono ?_); rintro e w2 ⟨v2, rfl, o2, b2⟩
        have o2 : w2.ownsRow _ _ _ _ (Lx.lex (92 :: t)).length (tcs (Lx.lex (92 :: t))) := o2
        rw [HL2.out] at o2
        have r2 := rt_of_own o2
        have r1a := r1.below' b2
        clear o2 r1
        go_wp2_with fail
        (with_reducible refine (lex_any _ (by simp; omega) _).mono ?_); rintro e w3 ⟨v3, rfl, o3, b3⟩
        have o3 : w3.ownsRow _ _ _ _ (Lx.lex (123 :: t ++ [32, 125])).length (tcs (Lx.lex (123 :: t ++ [32, 125]))) := o3
        rw [HL3.out] at o3
        have r3 := rt_of_own o3
        have r1b := r1a.below' b3
        have r2b := r2.below' b3
        clear o3 r1a r2
        go_wp2_with fail
        (with_reducible refine (refs_any _ _ _ r1b (by simp)).mono ?_); rintro e w4 ⟨v4, rfl, o4, b4⟩
        have r4 := rt_of_own o4
        have r2c := r2b.below' b4
        have r3c := r3.below' b4
        clear o4 r1b r2b r3
        go_wp2_with fail
        have m5 : Rt (w4.alloc (.cells #[.int .i64 1, .string (S t)] 40)) (.slice (some ⟨w4.heap.size, 0, none⟩) 1 1) [(1, t)] := rt_made w4 [(1, t)] _
        have al5 := (Below.refl w4.heap.size w4).alloc (Nat.le_refl _) (.cells #[.int .i64 1, .string (S t)] 40)
        (with_reducible refine (same_any _ _ _ [(1, t)] _ (r4.below' al5) m5 (by simp) (by simp)).mono ?_); rintro e w5 ⟨rfl, b5⟩
        rw [show (([(1, t)] : List Lx.Tok) == [(1, t)]) = true from beq_self_eq_true _]
        have bb5 := al5.trans (b5.mono (by simp))
        have r2d := r2c.below' bb5
        have r3d := r3c.below' bb5
        clear r4 r2c r3c m5 al5
        go_wp2_with fail
        (with_reducible refine (refs_any _ _ _ r2d (by simp)).mono ?_); rintro e w6 ⟨v6, rfl, o6, b6⟩
        have r6 := rt_of_own o6
        have r3e := r3d.below' b6
        clear o6 r2d r3d
        go_wp2_with fail
        have m7 : Rt (w6.alloc (.cells #[.int .i64 4, .string (S t)] 40)) (.slice (some ⟨w6.heap.size, 0, none⟩) 1 1) [(4, t)] := rt_made w6 [(4, t)] _
        have al7 := (Below.refl w6.heap.size w6).alloc (Nat.le_refl _) (.cells #[.int .i64 4, .string (S t)] 40)
        (with_reducible refine (same_any _ _ _ [(4, t)] _ (r6.below' al7) m7 (by simp) (by simp)).mono ?_); rintro e w7 ⟨rfl, b7⟩
        rw [show (([(4, t)] : List Lx.Tok) == [(4, t)]) = true from beq_self_eq_true _]
        have bb7 := al7.trans (b7.mono (by simp))
        have r3f := r3e.below' bb7
        clear r6 r3e m7 al7
        go_wp2_with fail
        (with_reducible refine (refs_any _ _ _ r3f (by simp)).mono ?_); rintro e w8 ⟨v8, rfl, o8, b8⟩
        have r8 := rt_of_own o8
        clear o8 r3f
        go_wp2_with fail
        have m9 : Rt (w8.alloc (.cells #[.int .i64 5, .string (S []), .int .i64 1, .string (S t), .int .i64 2, .string (S []), .int .i64 6, .string (S [])] 40)) (.slice (some ⟨w8.heap.size, 0, none⟩) 4 4) [(5, []), (1, t), (2, []), (6, [])] := rt_made w8 [(5, []), (1, t), (2, []), (6, [])] _
        have al9 := (Below.refl w8.heap.size w8).alloc (Nat.le_refl _) (.cells #[.int .i64 5, .string (S []), .int .i64 1, .string (S t), .int .i64 2, .string (S []), .int .i64 6, .string (S [])] 40)
        (with_reducible refine (same_any _ _ _ [(5, []), (1, t), (2, []), (6, [])] _ (r8.below' al9) m9 (by simp) (by simp)).mono ?_); rintro e w9 ⟨rfl, b9⟩
        rw [show (([(5, []), (1, t), (2, []), (6, [])] : List Lx.Tok) == [(5, []), (1, t), (2, []), (6, [])]) = true from beq_self_eq_true _]
        have bb9 := al9.trans (b9.mono (by simp))
        clear r8 m9 al9
        go_wp2_with fail
        (with_reducible refine (fixed_any _).mono ?_); rintro e wa ⟨rfl, ba⟩
        go_wp2_with fail
        go_ret
        have h1 := hb.trans (b1.mono hb.size)
        have h2 := (h1.trans (b2.mono h1.size)).trans (b3.mono (Nat.le_trans h1.size b2.size))
        have h3 := (h2.trans (b4.mono h2.size)).trans (bb5.mono (Nat.le_trans h2.size b4.size))
        have h4 := (h3.trans (b6.mono h3.size)).trans (bb7.mono (Nat.le_trans h3.size b6.size))
        have h5 := (h4.trans (b8.mono h4.size)).trans (bb9.mono (Nat.le_trans h4.size b8.size))
        exact ⟨rfl, h5.trans (ba.mono h5.size)⟩
      · have he : t = [] := by simpa using he
        subst he
        go_wp2_with fail
        (with_reducible refine (lex_any _ (by simp) _).mono ?_); rintro e w1 ⟨v1, rfl, o1, b1⟩
        obtain ⟨a1, k1, rfl⟩ := own_shape o1
        clear o1
        simp only [Lx.lex_nil, List.length_nil]
        go_wp2_with fail
        (with_reducible refine (fixed_any _).mono ?_); rintro e w2 ⟨rfl, b2⟩
        go_wp2_with fail
        go_ret
        have h1 := hb.trans (b1.mono hb.size)
        exact ⟨rfl, h1.trans (b2.mono h1.size)⟩

end Go.Proofs.Ytkbdfckmmjkghaa
