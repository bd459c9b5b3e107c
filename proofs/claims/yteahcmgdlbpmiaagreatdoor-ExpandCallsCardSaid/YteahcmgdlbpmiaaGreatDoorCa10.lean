/- 'ExpandCalls' holds; its tied card. -/
import Derived.Test.YteahcmgdlbpmiaaGreatDoorCa9
import Derived.Lib.SlBytesConst
import Derived.Test.YteahcmgdlbpmiaaGreatDoorRows
import Derived.ChangeSame
import Derived.ChangeVars
import Derived.JoinedOf
import Derived.RowKit
import Derived.RowKitTokens
import Derived.LaidLaws
import Derived.LaidHandle
import Derived.Stop.Joined
import Derived.ProofKit
import Derived.Deep.SlicePairs
import Derived.Deep.Grids
import Derived.OpenShut
import Derived.Test.YteahcmgdlbpmiaaGreatDoorCards
import Derived.Test.YteahcmgdlbpmiaaGreatDoorTie
import Derived.Test.YteahcmgdlbpmiaaGreatDoorChecked
import Derived.SevenTiedAt
namespace Go.Proofs.YteahcmgdlbpmiaaGreatDoor
open Go.RowKit

theorem mod_small8 (z n : Int) (h : 0 ≤ z ∧ z ≤ 255) (hn : 0 < n) : ∃ m : Nat, (m : Int) < n ∧ (wrap64 z).tmod n = (m : Int) ∧ z % n = (m : Int) := by
  rw [Go.IntWalk.wrap64_in _ (by omega), Int.tmod_eq_emod_of_nonneg h.1]
  have h1 := Int.emod_nonneg z (show n ≠ 0 by omega)
  have h2 := Int.emod_lt_of_pos z hn
  exact ⟨(z % n).toNat, by omega, by omega, by omega⟩
theorem conv8 (wr : World) (o : Obj) (c : UInt8) : (convert 57 9 (.slice (some ⟨wr.heap.size + 1, 0, none⟩) 1 1)).run Tryz.prog ((wr.alloc o).alloc (.cells #[.int .u8 c.toNat] 5)) = .ok (.string (S [c])) ((wr.alloc o).alloc (.cells #[.int .u8 c.toNat] 5)) := by
  refine conv_bytes (l := [c]) ⟨rfl, .inr ⟨wr.heap.size + 1, 0, 1, rfl, fun _ => by simp, fun j u hj => ?_, by simp⟩⟩
  have e := heap_alloc_new (wr.alloc o) (.cells #[.int .u8 c.toNat] 5)
  rw [show (wr.alloc o).heap.size = wr.heap.size + 1 by simp] at e
  rw [Nat.zero_add, cell_of_row _ (wr.heap.size + 1) _ _ 5 (0, 0) e]
  simpa [Lib.byteCells] using hj
theorem tabA_at (W : World) (m : Nat) (hm : m < 4) : ∃ c : UInt8, (Lx.letter c = true ∨ c = 32) ∧
    (W.alloc (.cells #[.int .u8 97, .int .u8 98, .int .u8 99, .int .u8 32] 5 (4, 5))).cell? ⟨W.heap.size, m, none⟩ = some (.int .u8 c.toNat) := by
  refine ⟨([97, 98, 99, 32] : List UInt8).getD m 0, ?_, ?_⟩
  · have : m = 0 ∨ m = 1 ∨ m = 2 ∨ m = 3 := by omega
    rcases this with rfl | rfl | rfl | rfl
    all_goals first
      | (left; rfl)
      | (right; rfl)
  · have : m = 0 ∨ m = 1 ∨ m = 2 ∨ m = 3 := by omega
    rcases this with rfl | rfl | rfl | rfl <;> (rw [cell_of_row _ W.heap.size _ _ 5 (4, 5) (heap_alloc_new W _)]; rfl)
theorem tabB_at (W : World) (m : Nat) (hm : m < 4) : ∃ c : UInt8, (Lx.letter c = true ∨ c = 32) ∧
    (W.alloc (.cells #[.int .u8 120, .int .u8 121, .int .u8 122, .int .u8 32] 5 (4, 5))).cell? ⟨W.heap.size, m, none⟩ = some (.int .u8 c.toNat) := by
  refine ⟨([120, 121, 122, 32] : List UInt8).getD m 0, ?_, ?_⟩
  · have : m = 0 ∨ m = 1 ∨ m = 2 ∨ m = 3 := by omega
    rcases this with rfl | rfl | rfl | rfl
    all_goals first
      | (left; rfl)
      | (right; rfl)
  · have : m = 0 ∨ m = 1 ∨ m = 2 ∨ m = 3 := by omega
    rcases this with rfl | rfl | rfl | rfl <;> (rw [cell_of_row _ W.heap.size _ _ 5 (4, 5) (heap_alloc_new W _)]; rfl)
theorem plain_of {t : List UInt8} (h : ∀ c ∈ t, Lx.letter c = true ∨ c = 32) {a b : UInt8} (ha : Lx.letter a = true) (hb : Lx.letter b = true) : Lx.Plain (a :: (t ++ [b])) := by
  refine ⟨fun c hc => ?_, fun c hc => ?_⟩
  · rcases List.mem_cons.1 hc with rfl | hc
    · exact .inl ha
    · rcases List.mem_append.1 hc with hc | hc
      · exact h c hc
      · rw [List.mem_singleton.1 hc]; exact .inl hb
  · rw [show a :: (t ++ [b]) = (a :: t) ++ [b] from rfl, List.getLast?_concat] at hc
    injection hc with hc
    rw [← hc]; exact hb

set_option maxRecDepth 20000 in
set_option maxHeartbeats 8000000 in
/-- 'ExpandCalls'. -/
theorem expandCalls_any (x y : List UInt8) (w : World) (hx : x.length ≤ 9223372036854775807) (hy : y.length ≤ 9223372036854775807) (hgl : Gl w) (hw0 : 0 < w.heap.size) :
    Calls Tryz.prog 7 #[.agg #[.string (S x), .string (S y)]] w fun e w' => e = .returned (.bool true) ∧ Below w.heap.size w w' := by
  have hcv := fun (w : World) (C : Array Value) (n c : Nat) => Go.Lib.run_convert_bytes_const (P := Tryz.prog) w 57 5 C n c Tryz.underlying57 Tryz.underlying5
  have HOF : Hid (∀ (t : List UInt8), t.length ≤ 1000 → ∀ W, Below w.heap.size w W → Calls Tryz.prog 17 #[.string (S t), .int .i64 9] W fun e w' => ∃ o, e = .returned o ∧ RdO w' o (Ex.expand [([109], t)] [109] 9 100) ∧ Below W.heap.size W w') := Lib.hid fun t ht W hb =>
    of8_any t 9 W ht (by decide) (hgl.below hw0 hb) (Nat.lt_of_lt_of_le hw0 hb.size) rfl
  have HFX : Hid (∀ W, Below w.heap.size w W → Calls Tryz.prog 15 #[] W fun e w' => e = .returned (.bool true) ∧ Below W.heap.size W w') := Lib.hid fun W hb => exFixed_any W (hgl.below hw0 hb) (Nat.lt_of_lt_of_le hw0 hb.size)
  clear hgl hw0
  obtain ⟨W0, hW0⟩ : ∃ W0, W0 = w.alloc (.cells #[.string (S x), .string (S y)] 56) := ⟨_, rfl⟩
  have HB0 : Hid (Below w.heap.size w W0) := Lib.hid (by rw [hW0]; exact (Below.refl _ _).alloc (Nat.le_refl _) _)
  have HBX : Hid (∀ W, Below W0.heap.size W0 W → W.cell? ⟨w.heap.size, 0, none⟩ = some (.string (S x)) ∧ W.cell? ⟨w.heap.size, 1, none⟩ = some (.string (S y))) := Lib.hid fun W hb => by
    have r0 : Ro W0 w.heap.size 56 [.string (S x), .string (S y)] := by rw [hW0]; exact heap_alloc_new w _
    have r1 := r0.kw (Kw.of_below hb) (by have := r0.lt; omega)
    exact ⟨r1.cell (i := 0) rfl, r1.cell (i := 1) rfl⟩
  have HW0 := Lib.hid hW0
  clear hW0
  go_enter Tryz.func7, Tryz.ntmps7
  simp only [S_lit]
  go_upto_region 1 with fail
  rw [← HW0.out]
  go_upto_region 3 with fail
  go_loopw [3, 5] (fun ws i wr => ∃ (k : Nat) (t : List UInt8), k ≤ x.length ∧ k ≤ 30 ∧ i = .int .i64 k ∧ ws = .string (S t) ∧ t.length = k ∧ Hid (∀ c ∈ t, Lx.letter c = true ∨ c = 32) ∧ Below W0.heap.size W0 wr) (fun _ i _ => x.length - (intOf i).toNat)
  case atStart => exact ⟨0, [], Nat.zero_le _, Nat.zero_le _, rfl, rfl, rfl, Lib.hid (by simp), Below.refl _ _⟩
  case round =>
    obtain ⟨k, t, hk, hk2, rfl, rfl, ht, HT, hb⟩ := hrel
    have cx := (HBX.out _ (hb)).1
    by_cases hin : k < x.length ∧ k < 30
    · obtain ⟨hlt, hlm⟩ := hin
      obtain ⟨m, hm, hmod, hmod2⟩ := mod_small8 (x[k].toNat : Int) 4 (by have := x[k].toNat_lt; omega) (by decide)
      obtain ⟨c, hc, hread⟩ := tabA_at wr m (by omega)
      have cx2 : ∀ o, (wr.alloc o).cell? _ = _ := fun o => (HBX.out _ (hb.alloc hb.size o)).1
      have HC := Lib.hid hc
      have hk30 : (k : Int) < 30 := by omega
      have hks : (k : Int) < (x.length : Int) := by omega
      have hm0 : (0 : Int) ≤ (m : Int) := by omega
      clear hc
      have hcv1 := fun o => conv8 wr o c
      have hcat : ¬ 9223372036854775807 < List.length t + 1 := by omega
      go_wp2_with fail
      go_roundw
      case rel => exact ⟨k + 1, t ++ [c], by omega, by omega, by go_num, rfl, by simp [ht], Lib.hid (fun d hd => by
        rcases List.mem_append.1 hd with h | h
        · exact HT.out d h
        · simp only [List.mem_singleton] at h; rw [h]; exact HC.out), (hb.alloc hb.size _).alloc (by have := hb.size; simp; omega) _⟩
      case measure => simp [intOf]; omega
    · have htl : t.length ≤ 30 := by omega
      have hstop : k = x.length ∨ (k < x.length ∧ k = 30) := by omega
      have HB1 := Lib.hid hb
      have HTL := Lib.hid (show t.length ≤ 30 from htl)
      clear ht hb htl
      rcases hstop with rfl | ⟨h, rfl⟩
      all_goals (
        go_wp2_with fail
        clear hk hk2 hin cx
        go_loopw [4, 6] (fun ws i wq => ∃ (k : Nat) (u : List UInt8), k ≤ y.length ∧ k ≤ 30 ∧ i = .int .i64 k ∧ ws = .string (S u) ∧ u.length = k ∧ Hid (∀ c ∈ u, Lx.letter c = true ∨ c = 32) ∧ Below wr.heap.size wr wq) (fun _ i _ => y.length - (intOf i).toNat)
        case atStart => exact ⟨0, [], Nat.zero_le _, Nat.zero_le _, rfl, rfl, rfl, Lib.hid (by simp), Below.refl _ _⟩
        case round =>
          obtain ⟨k, u, hk, hk2, rfl, rfl, hu, HU, hb⟩ := hrel
          have cx := (HBX.out _ (HB1.out.trans ((hb).mono HB1.out.size))).2
          by_cases hin : k < y.length ∧ k < 30
          · obtain ⟨hlt, hlm⟩ := hin
            obtain ⟨m, hm, hmod, hmod2⟩ := mod_small8 (y[k].toNat : Int) 4 (by have := y[k].toNat_lt; omega) (by decide)
            obtain ⟨c, hc, hread⟩ := tabB_at wr m (by omega)
            have cx2 : ∀ o, (wr.alloc o).cell? _ = _ := fun o => (HBX.out _ (HB1.out.trans ((hb.alloc hb.size o).mono HB1.out.size))).2
            have HC := Lib.hid hc
            have hk30 : (k : Int) < 30 := by omega
            have hks : (k : Int) < (y.length : Int) := by omega
            have hm0 : (0 : Int) ≤ (m : Int) := by omega
            clear hc
            have hcv1 := fun o => conv8 wr o c
            have hcat : ¬ 9223372036854775807 < List.length u + 1 := by omega
            go_wp2_with fail
            go_roundw
            case rel => exact ⟨k + 1, u ++ [c], by omega, by omega, by go_num, rfl, by simp [hu], Lib.hid (fun d hd => by
              rcases List.mem_append.1 hd with h | h
              · exact HU.out d h
              · simp only [List.mem_singleton] at h; rw [h]; exact HC.out), (hb.alloc hb.size _).alloc (by have := hb.size; simp; omega) _⟩
            case measure => simp [intOf]; omega
          · have hul : u.length ≤ 30 := by omega
            have hstop : k = y.length ∨ (k < y.length ∧ k = 30) := by omega
            have HUL := Lib.hid (show u.length ≤ 30 from hul)
            have HBQ : Hid (Below w.heap.size w wr) := Lib.hid (HB0.out.trans ((HB1.out.trans (hb.mono HB1.out.size)).mono HB0.out.size))
            have g1 : ¬ 9223372036854775807 < t.length + 1 := by have := HTL.out; omega
            have g2 : ¬ 9223372036854775807 < t.length + 1 + 1 := by have := HTL.out; omega
            have g3 : ¬ 9223372036854775807 < u.length + 1 := by omega
            have g4 : ¬ 9223372036854775807 < u.length + 1 + 1 := by omega
            clear hu hb hul
            rcases hstop with rfl | ⟨h, rfl⟩
            all_goals (
              go_upto_region 12 with fail
              obtain ⟨s1, hs1⟩ : ∃ s1, s1 = 97 :: (t ++ [98]) := ⟨_, rfl⟩
              obtain ⟨t1, ht1⟩ : ∃ t1, t1 = 120 :: (u ++ [121]) := ⟨_, rfl⟩
              rw [← hs1, ← ht1]
              have HPS : Hid (Lx.Plain s1) := Lib.hid (by rw [hs1]; exact plain_of HT.out (by decide) (by decide))
              have HPT : Hid (Lx.Plain t1) := Lib.hid (by rw [ht1]; exact plain_of HU.out (by decide) (by decide))
              have hls : s1.length ≤ 32 := by have := HTL.out; rw [hs1]; simp; omega
              have hlt : t1.length ≤ 32 := by have := HUL.out; rw [ht1]; simp; omega
              have HTS : Hid (Lx.lex (t1 ++ 32 :: s1) = Lx.lex t1 ++ (2, []) :: Lx.lex s1) := Lib.hid (Ex.lex_ts HPT.out hs1 (by decide))
              have HST : Hid (Lx.lex (s1 ++ 123 :: 125 :: t1) = Lx.lex s1 ++ (5, []) :: (6, []) :: Lx.lex t1) := Lib.hid (Ex.lex_st HPS.out)
              clear hk hk2 hin cx hs1 ht1 g1 g2 g3 g4
              obtain ⟨L1, hL1⟩ : ∃ L, L = Lx.lex t1 ++ (2, []) :: Lx.lex s1 := ⟨_, rfl⟩
              obtain ⟨L2, hL2⟩ : ∃ L, L = Lx.lex s1 ++ (5, []) :: (6, []) :: Lx.lex t1 := ⟨_, rfl⟩
              obtain ⟨n1, hn1⟩ : ∃ n, L1.length = n := ⟨_, rfl⟩
              obtain ⟨n2, hn2⟩ : ∃ n, L2.length = n := ⟨_, rfl⟩
              obtain ⟨n3, hn3⟩ : ∃ n, n = 1 := ⟨_, rfl⟩
              have HN : Hid (L1.length = n1 ∧ L2.length = n2 ∧ [((4 : Int), ([111, 110, 101] : List UInt8))].length = n3 ∧ n1 ≤ 100 ∧ n2 ≤ 100) := Lib.hid (by
                have l1 := lex_len s1
                have l2 := lex_len t1
                refine ⟨hn1, hn2, by rw [hn3]; rfl, ?_, ?_⟩
                · rw [← hn1, hL1]; simp; omega
                · rw [← hn2, hL2]; simp; omega)
              obtain ⟨ms1, e1⟩ := Ex.call_a HPS.out HPT.out hls hlt
              obtain ⟨ms2, e2⟩ := Ex.call_b HPS.out HPT.out hls hlt
              have e3 := Ex.call_c HPS.out
              rw [← hL1] at e1 HTS
              rw [← hL2] at e2 HST
              have H1 : Hid (∀ W, Below w.heap.size w W → Calls Tryz.prog 17 #[.string (S (92 :: 100 :: 101 :: 102 :: 123 :: 112 :: 97 :: 105 :: 114 :: 125 :: 123 :: 50 :: 125 :: 123 :: 35 :: 50 :: 32 :: 35 :: 49 :: 125 :: 92 :: 112 :: 97 :: 105 :: 114 :: 123 :: (s1 ++ 125 :: 32 :: 123 :: (t1 ++ [125])))), .int .i64 9] W fun e w' => ∃ o, e = .returned o ∧ RdO w' o ⟨[], ms1, 8, L1, [[109]], [], 1⟩ ∧ Below W.heap.size W w') := Lib.hid fun W hb => by
                have h9 := HOF.out (Ex.textA s1 t1) (by simp; omega) W hb
                rw [e1] at h9
                exact h9
              have H2 : Hid (∀ W, Below w.heap.size w W → Calls Tryz.prog 17 #[.string (S (92 :: 100 :: 101 :: 102 :: 123 :: 105 :: 110 :: 125 :: 123 :: 48 :: 125 :: 123 :: 92 :: 111 :: 117 :: 116 :: 125 :: 92 :: 100 :: 101 :: 102 :: 123 :: 111 :: 117 :: 116 :: 125 :: 123 :: 48 :: 125 :: 123 :: (s1 ++ 125 :: 92 :: 105 :: 110 :: 123 :: 125 :: 92 :: 100 :: 101 :: 102 :: 123 :: 111 :: 117 :: 116 :: 125 :: 123 :: 48 :: 125 :: 123 :: (t1 ++ [125, 92, 105, 110])))), .int .i64 9] W fun e w' => ∃ o, e = .returned o ∧ RdO w' o ⟨[], ms2, 5, L2, [[109]], [], 4⟩ ∧ Below W.heap.size W w') := Lib.hid fun W hb => by
                have h9 := HOF.out (Ex.textB s1 t1) (by simp; omega) W hb
                rw [e2] at h9
                exact h9
              have H3 : Hid (∀ W, Below w.heap.size w W → Calls Tryz.prog 17 #[.string (S (92 :: 100 :: 101 :: 102 :: 123 :: 111 :: 110 :: 101 :: 125 :: 123 :: 48 :: 125 :: 123 :: (s1 ++ [125, 92, 117, 110, 100, 101, 102, 123, 111, 110, 101, 125, 92, 111, 110, 101]))), .int .i64 9] W fun e w' => ∃ o, e = .returned o ∧ RdO w' o ⟨[], [], 9, [(4, [111, 110, 101])], [[109]], [], 0⟩ ∧ Below W.heap.size W w') := Lib.hid fun W hb => by
                have h9 := HOF.out (Ex.textC s1) (by simp; omega) W hb
                rw [e3] at h9
                exact h9
              clear e1 e2 e3 hL1 hL2 hn1 hn2 hn3 HOF
              go_upto_region 13 with (go_at_call 17; (with_reducible refine (H1.out wr HBQ.out).mono ?_); rintro e w1 ⟨o, rfl, ro, b1⟩; obtain ⟨a1L, c1L, a1R, c1R, a1N, c1N, rfl, hA1⟩ := shape9 ro (u := 1) rfl rfl rfl rfl HN.out.1 rfl rfl; have HA1 := Lib.hid hA1; clear hA1 ro)
              obtain ⟨V1, hV1⟩ : ∃ V, V = w1.alloc (.cells #[(.slice a1L n1 c1L), (.slice a1R 1 c1R), (.slice a1N 0 c1N), (.int .i64 1)] 31) := ⟨_, rfl⟩
              rw [← hV1]
              have HC1 : Hid (∀ W, Below V1.heap.size V1 W → W.cell? ⟨w1.heap.size, 0, none⟩ = some (.slice a1L n1 c1L) ∧ W.cell? ⟨w1.heap.size, 1, none⟩ = some (.slice a1R 1 c1R) ∧ W.cell? ⟨w1.heap.size, 2, none⟩ = some (.slice a1N 0 c1N) ∧ W.cell? ⟨w1.heap.size, 3, none⟩ = some (.int .i64 1)) := Lib.hid fun W hb => by
                have r0 : Ro V1 w1.heap.size 31 [(.slice a1L n1 c1L), (.slice a1R 1 c1R), (.slice a1N 0 c1N), (.int .i64 1)] := by rw [hV1]; exact heap_alloc_new w1 _
                have r1 := r0.kw (Kw.of_below hb) (by have := r0.lt; omega)
                exact ⟨r1.cell (i := 0) rfl, r1.cell (i := 1) rfl, r1.cell (i := 2) rfl, r1.cell (i := 3) rfl⟩
              have HV1 : Hid (Below w1.heap.size w1 V1) := Lib.hid (by rw [hV1]; exact (Below.refl _ _).alloc (Nat.le_refl _) _)
              have HB11 : Hid (Below wr.heap.size wr V1) := Lib.hid (b1.trans (HV1.out.mono b1.size))
              clear hV1 b1 H1
              have HQ1 : Hid (Below w.heap.size w V1) := Lib.hid (HBQ.out.trans (HB11.out.mono HBQ.out.size))
              go_upto_region 14 with (go_at_call 17; (with_reducible refine (H2.out V1 HQ1.out).mono ?_); rintro e w2 ⟨o, rfl, ro, b2⟩; obtain ⟨a2L, c2L, a2R, c2R, a2N, c2N, rfl, hA2⟩ := shape9 ro (u := 4) rfl rfl rfl rfl HN.out.2.1 rfl rfl; have HA2 := Lib.hid hA2; clear hA2 ro)
              obtain ⟨V2, hV2⟩ : ∃ V, V = w2.alloc (.cells #[(.slice a2L n2 c2L), (.slice a2R 1 c2R), (.slice a2N 0 c2N), (.int .i64 4)] 31) := ⟨_, rfl⟩
              rw [← hV2]
              have HC2 : Hid (∀ W, Below V2.heap.size V2 W → W.cell? ⟨w2.heap.size, 0, none⟩ = some (.slice a2L n2 c2L) ∧ W.cell? ⟨w2.heap.size, 1, none⟩ = some (.slice a2R 1 c2R) ∧ W.cell? ⟨w2.heap.size, 2, none⟩ = some (.slice a2N 0 c2N) ∧ W.cell? ⟨w2.heap.size, 3, none⟩ = some (.int .i64 4)) := Lib.hid fun W hb => by
                have r0 : Ro V2 w2.heap.size 31 [(.slice a2L n2 c2L), (.slice a2R 1 c2R), (.slice a2N 0 c2N), (.int .i64 4)] := by rw [hV2]; exact heap_alloc_new w2 _
                have r1 := r0.kw (Kw.of_below hb) (by have := r0.lt; omega)
                exact ⟨r1.cell (i := 0) rfl, r1.cell (i := 1) rfl, r1.cell (i := 2) rfl, r1.cell (i := 3) rfl⟩
              have HV2 : Hid (Below w2.heap.size w2 V2) := Lib.hid (by rw [hV2]; exact (Below.refl _ _).alloc (Nat.le_refl _) _)
              have HB12 : Hid (Below V1.heap.size V1 V2) := Lib.hid (b2.trans (HV2.out.mono b2.size))
              clear hV2 b2 H2
              have HQ2 : Hid (Below w.heap.size w V2) := Lib.hid (HQ1.out.trans (HB12.out.mono HQ1.out.size))
              go_upto_region 15 with (go_at_call 17; (with_reducible refine (H3.out V2 HQ2.out).mono ?_); rintro e w3 ⟨o, rfl, ro, b3⟩; obtain ⟨a3L, c3L, a3R, c3R, a3N, c3N, rfl, hA3⟩ := shape9 ro (u := 0) rfl rfl rfl rfl HN.out.2.2.1 rfl rfl; have HA3 := Lib.hid hA3; clear hA3 ro)
              obtain ⟨V3, hV3⟩ : ∃ V, V = w3.alloc (.cells #[(.slice a3L n3 c3L), (.slice a3R 1 c3R), (.slice a3N 0 c3N), (.int .i64 0)] 31) := ⟨_, rfl⟩
              rw [← hV3]
              have HC3 : Hid (∀ W, Below V3.heap.size V3 W → W.cell? ⟨w3.heap.size, 0, none⟩ = some (.slice a3L n3 c3L) ∧ W.cell? ⟨w3.heap.size, 1, none⟩ = some (.slice a3R 1 c3R) ∧ W.cell? ⟨w3.heap.size, 2, none⟩ = some (.slice a3N 0 c3N) ∧ W.cell? ⟨w3.heap.size, 3, none⟩ = some (.int .i64 0)) := Lib.hid fun W hb => by
                have r0 : Ro V3 w3.heap.size 31 [(.slice a3L n3 c3L), (.slice a3R 1 c3R), (.slice a3N 0 c3N), (.int .i64 0)] := by rw [hV3]; exact heap_alloc_new w3 _
                have r1 := r0.kw (Kw.of_below hb) (by have := r0.lt; omega)
                exact ⟨r1.cell (i := 0) rfl, r1.cell (i := 1) rfl, r1.cell (i := 2) rfl, r1.cell (i := 3) rfl⟩
              have HV3 : Hid (Below w3.heap.size w3 V3) := Lib.hid (by rw [hV3]; exact (Below.refl _ _).alloc (Nat.le_refl _) _)
              have HB13 : Hid (Below V2.heap.size V2 V3) := Lib.hid (b3.trans (HV3.out.mono b3.size))
              clear hV3 b3 H3
              have HQ3 : Hid (Below w.heap.size w V3) := Lib.hid (HQ2.out.trans (HB13.out.mono HQ2.out.size))
              have HCC : Hid (∀ W, Below V3.heap.size V3 W → (W.cell? ⟨w1.heap.size, 0, none⟩ = some (.slice a1L n1 c1L) ∧ W.cell? ⟨w1.heap.size, 1, none⟩ = some (.slice a1R 1 c1R) ∧ W.cell? ⟨w1.heap.size, 2, none⟩ = some (.slice a1N 0 c1N) ∧ W.cell? ⟨w1.heap.size, 3, none⟩ = some (.int .i64 1)) ∧ (W.cell? ⟨w2.heap.size, 0, none⟩ = some (.slice a2L n2 c2L) ∧ W.cell? ⟨w2.heap.size, 1, none⟩ = some (.slice a2R 1 c2R) ∧ W.cell? ⟨w2.heap.size, 2, none⟩ = some (.slice a2N 0 c2N) ∧ W.cell? ⟨w2.heap.size, 3, none⟩ = some (.int .i64 4)) ∧ (W.cell? ⟨w3.heap.size, 0, none⟩ = some (.slice a3L n3 c3L) ∧ W.cell? ⟨w3.heap.size, 1, none⟩ = some (.slice a3R 1 c3R) ∧ W.cell? ⟨w3.heap.size, 2, none⟩ = some (.slice a3N 0 c3N) ∧ W.cell? ⟨w3.heap.size, 3, none⟩ = some (.int .i64 0))) := Lib.hid fun W hb => by
                have h2 := HB13.out.trans (hb.mono HB13.out.size)
                exact ⟨HC1.out W (HB12.out.trans (h2.mono HB12.out.size)), HC2.out W h2, HC3.out W hb⟩
              have HZ1 : Hid (∀ W, Below V3.heap.size V3 W → Below w1.heap.size w1 W) := Lib.hid fun W hb => by
                have h2 := HB13.out.trans (hb.mono HB13.out.size)
                have h1 := HB12.out.trans (h2.mono HB12.out.size)
                exact HV1.out.trans (h1.mono HV1.out.size)
              have HZ2 : Hid (∀ W, Below V3.heap.size V3 W → Below w2.heap.size w2 W) := Lib.hid fun W hb => by
                have h2 := HB13.out.trans (hb.mono HB13.out.size)
                exact HV2.out.trans (h2.mono HV2.out.size)
              have HZ3 : Hid (∀ W, Below V3.heap.size V3 W → Below w3.heap.size w3 W) := Lib.hid fun W hb => HV3.out.trans (hb.mono HV3.out.size)
              have HR1 : Hid (∀ W, Below V3.heap.size V3 W → Calls Tryz.prog 20 #[.slice a1L n1 c1L] W fun e w' => ∃ v', e = .returned v' ∧ Rt w' v' L1 ∧ Below W.heap.size W w') := Lib.hid fun W hb => (refs_any _ L1 W (HA1.out W (HZ1.out W hb)).1 (by rw [HN.out.1]; have := HN.out.2.2.2.1; omega)).mono fun e w' ⟨v', x1, x2, x3⟩ => ⟨v', x1, own_rd x2, x3⟩
              have HX1 : Hid (∀ W, Calls Tryz.prog 21 #[.string (S (t1 ++ 32 :: s1))] W fun e w' => ∃ v', e = .returned v' ∧ Rt w' v' L1 ∧ Below W.heap.size W w') := Lib.hid fun W => (refLex_any (t1 ++ 32 :: s1) (by simp; omega) W).mono fun e w' ⟨v', x1, x2, x3⟩ => ⟨v', x1, by rw [HTS.out] at x2; exact own_rd x2, x3⟩
              have HS1 : Hid (∀ W a b, Rt W a L1 → Rt W b L1 → Calls Tryz.prog 19 #[a, b] W fun e w' => e = .returned (.bool true) ∧ Below W.heap.size W w') := Lib.hid fun W a b ha hb => by
                have h9 := same_any a b L1 L1 W ha hb (by rw [HN.out.1]; have := HN.out.2.2.2.1; omega) (by rw [HN.out.1]; have := HN.out.2.2.2.1; omega)
                rw [beq_self_eq_true] at h9
                exact h9
              have HR2 : Hid (∀ W, Below V3.heap.size V3 W → Calls Tryz.prog 20 #[.slice a2L n2 c2L] W fun e w' => ∃ v', e = .returned v' ∧ Rt w' v' L2 ∧ Below W.heap.size W w') := Lib.hid fun W hb => (refs_any _ L2 W (HA2.out W (HZ2.out W hb)).1 (by rw [HN.out.2.1]; have := HN.out.2.2.2.2; omega)).mono fun e w' ⟨v', x1, x2, x3⟩ => ⟨v', x1, own_rd x2, x3⟩
              have HX2 : Hid (∀ W, Calls Tryz.prog 21 #[.string (S (s1 ++ 123 :: 125 :: t1))] W fun e w' => ∃ v', e = .returned v' ∧ Rt w' v' L2 ∧ Below W.heap.size W w') := Lib.hid fun W => (refLex_any (s1 ++ 123 :: 125 :: t1) (by simp; omega) W).mono fun e w' ⟨v', x1, x2, x3⟩ => ⟨v', x1, by rw [HST.out] at x2; exact own_rd x2, x3⟩
              have HS2 : Hid (∀ W a b, Rt W a L2 → Rt W b L2 → Calls Tryz.prog 19 #[a, b] W fun e w' => e = .returned (.bool true) ∧ Below W.heap.size W w') := Lib.hid fun W a b ha hb => by
                have h9 := same_any a b L2 L2 W ha hb (by rw [HN.out.2.1]; have := HN.out.2.2.2.2; omega) (by rw [HN.out.2.1]; have := HN.out.2.2.2.2; omega)
                rw [beq_self_eq_true] at h9
                exact h9
              have HR3 : Hid (∀ W, Below V3.heap.size V3 W → Calls Tryz.prog 20 #[.slice a3L n3 c3L] W fun e w' => ∃ v', e = .returned v' ∧ Rt w' v' [((4 : Int), ([111, 110, 101] : List UInt8))] ∧ Below W.heap.size W w') := Lib.hid fun W hb => (refs_any _ [((4 : Int), ([111, 110, 101] : List UInt8))] W (HA3.out W (HZ3.out W hb)).1 (by decide)).mono fun e w' ⟨v', x1, x2, x3⟩ => ⟨v', x1, own_rd x2, x3⟩
              have HX3 : Hid (∀ W, Calls Tryz.prog 21 #[.string (S ([92, 111, 110, 101]))] W fun e w' => ∃ v', e = .returned v' ∧ Rt w' v' [((4 : Int), ([111, 110, 101] : List UInt8))] ∧ Below W.heap.size W w') := Lib.hid fun W => (refLex_any ([92, 111, 110, 101]) (by simp) W).mono fun e w' ⟨v', x1, x2, x3⟩ => ⟨v', x1, by rw [(show Lx.lex [92, 111, 110, 101] = [((4 : Int), ([111, 110, 101] : List UInt8))] from rfl)] at x2; exact own_rd x2, x3⟩
              have HS3 : Hid (∀ W a b, Rt W a [((4 : Int), ([111, 110, 101] : List UInt8))] → Rt W b [((4 : Int), ([111, 110, 101] : List UInt8))] → Calls Tryz.prog 19 #[a, b] W fun e w' => e = .returned (.bool true) ∧ Below W.heap.size W w') := Lib.hid fun W a b ha hb => by
                have h9 := same_any a b [((4 : Int), ([111, 110, 101] : List UInt8))] [((4 : Int), ([111, 110, 101] : List UInt8))] W ha hb (by decide) (by decide)
                rw [beq_self_eq_true] at h9
                exact h9
              have HG0 : Hid (Below V3.heap.size V3 V3) := Lib.hid (Below.refl _ _)
              obtain ⟨⟨c10, c11, c12, c13⟩, ⟨c20, c21, c22, c23⟩, c30, c31, c32, c33⟩ := HCC.out _ HG0.out
              clear HC1 HC2 HC3 HA1 HA2 HA3 HV1 HV2 HV3 HB11 HB12 HB13 HZ1 HZ2 HZ3 hcv
              go_wp2_with (first
                | (go_at_call 20; (with_reducible refine (HR1.out _ HG0.out).mono ?_); rintro e wa ⟨p1, rfl, x1, bwa⟩; have gwa := Below.trans HG0.out (bwa.mono (Below.size HG0.out)))
                | (go_at_call 21; (with_reducible refine (HX1.out _).mono ?_); rintro e wb ⟨q1, rfl, y1, bwb⟩; have x1 := x1.below' bwb; have gwb := gwa.trans (bwb.mono gwa.size))
                | (go_at_call 19; (with_reducible refine (HS1.out _ _ _ x1 y1).mono ?_); rintro e wc ⟨rfl, bwc⟩; have gwc := gwb.trans (bwc.mono gwb.size); obtain ⟨⟨c10, c11, c12, c13⟩, ⟨c20, c21, c22, c23⟩, c30, c31, c32, c33⟩ := HCC.out _ gwc)
                | (go_at_call 20; (with_reducible refine (HR2.out _ gwc).mono ?_); rintro e wd ⟨p2, rfl, x2, bwd⟩; have gwd := Below.trans gwc (bwd.mono (Below.size gwc)))
                | (go_at_call 21; (with_reducible refine (HX2.out _).mono ?_); rintro e we ⟨q2, rfl, y2, bwe⟩; have x2 := x2.below' bwe; have gwe := gwd.trans (bwe.mono gwd.size))
                | (go_at_call 19; (with_reducible refine (HS2.out _ _ _ x2 y2).mono ?_); rintro e wf ⟨rfl, bwf⟩; have gwf := gwe.trans (bwf.mono gwe.size); obtain ⟨⟨c10, c11, c12, c13⟩, ⟨c20, c21, c22, c23⟩, c30, c31, c32, c33⟩ := HCC.out _ gwf)
                | (go_at_call 20; (with_reducible refine (HR3.out _ gwf).mono ?_); rintro e wg ⟨p3, rfl, x3, bwg⟩; have gwg := Below.trans gwf (bwg.mono (Below.size gwf)))
                | (go_at_call 21; (with_reducible refine (HX3.out _).mono ?_); rintro e wh ⟨q3, rfl, y3, bwh⟩; have x3 := x3.below' bwh; have gwh := gwg.trans (bwh.mono gwg.size))
                | (go_at_call 19; (with_reducible refine (HS3.out _ _ _ x3 y3).mono ?_); rintro e wi ⟨rfl, bwi⟩; have gwi := gwh.trans (bwi.mono gwh.size); obtain ⟨⟨c10, c11, c12, c13⟩, ⟨c20, c21, c22, c23⟩, c30, c31, c32, c33⟩ := HCC.out _ gwi)
                | (go_at_call 15; (with_reducible refine (HFX.out _ (HQ3.out.trans (gwi.mono HQ3.out.size))).mono ?_); rintro e wj ⟨rfl, bj⟩)
                | fail)
              (try simp only [Exit.inBlock, Exit.then])
              go_ret
              exact ⟨rfl, HQ3.out.trans ((gwi.trans (bj.mono gwi.size)).mono HQ3.out.size)⟩))
end Go.Proofs.YteahcmgdlbpmiaaGreatDoor

namespace Go.Proofs.YteahcmgdlbpmiaaGreatDoor
open Go.ChangeShapes Go.WideShapes Go.RowKit

theorem own : ownKnob Tryz.prog.godebug = none := by kernel_rfl
theorem laidOut : laidOutB Tryz.prog = true := by kernel_rfl
theorem et8 : Tryz.prog.globalNamed "errors.errorType" = some 0 := by kernel_rfl
theorem rt8 : (Tryz.prog.cutTypes.find? (·.1 == "internal/reflectlite.rtype")).map (·.2) = some 176 := by kernel_rfl
theorem oneRow8 : ((List.range 242).filter fun t => Tryz.prog.rowNamed t [101, 114, 114, 111, 114]) = [100] := by kernel_rfl
theorem size8 : Tryz.prog.types.size = 242 := by kernel_rfl

/-- What the condition gives a walk: the variable's one cell. -/
theorem gl_of_laid {W : World} (h : laidMetH Tryz.prog [("errors.errorType", Rows.laid_errors_errorType)] W) : Gl W := by
  have h' : laidMet Tryz.prog [] W ∧ handlesMet Tryz.prog [("errors.errorType", Rows.laid_errors_errorType)] W := h
  obtain ⟨name, u, ty, e1, e2, e3, e4, e5⟩ := h'.2 _ (List.mem_singleton.2 rfl)
  have en : name = [101, 114, 114, 111, 114] := (Option.some.inj e1).symm
  subst en
  obtain rfl := Option.some.inj (rt8.symm.trans e2)
  have hm : ty ∈ (List.range 242).filter fun t => Tryz.prog.rowNamed t [101, 114, 114, 111, 114] := List.mem_filter.2 ⟨List.mem_range.2 (by rw [← size8]; exact e3), e4⟩
  rw [oneRow8] at hm
  obtain rfl := List.mem_singleton.1 hm
  have hh : typeHandle Tryz.prog 100 = .pointer (some ⟨2, 100, none⟩) := by kernel_rfl
  rw [hh] at e5
  have h9 := World.var?_cell et8 e5 0
  unfold Gl
  simpa using h9
theorem gl_pos {W : World} (h : Gl W) : 0 < W.heap.size := by
  rcases Nat.eq_zero_or_pos W.heap.size with h0 | h9
  · simp [Gl, World.cell?, h0] at h
  · exact h9

/-- A world that meets the condition: the settled one, the variable's cell laid. -/
noncomputable def laidWorld (os : Os) : World :=
  let w0 := World.holding Tryz.prog os ⟨#[], #[], []⟩
  { w0 with heap := w0.heap.modify 0 fun
      | .cells _ t frozen => .cells #[.iface 176 (.agg #[.pointer (some ⟨2, 100, none⟩)])] t frozen
      | o => o }
theorem laidWorld_met (os : Os) (args : Array Value) : laidMetH Tryz.prog [("errors.errorType", Rows.laid_errors_errorType)] ((laidWorld os).forCall (fun _ _ => 0) ⟨#[], args, []⟩).memory :=
  laidMetH_of_parts (laidMet_nil _ _) (by kernel_rfl)
end Go.Proofs.YteahcmgdlbpmiaaGreatDoor

namespace Go.Proofs.YteahcmgdlbpmiaaGreatDoor
open Go.ChangeShapes Go.WideShapes Go.ChangeAt Go.RowKit Go.ChangeMaps

section
variable {H : Type} {enc : TypeId × Value → H} {P : Program} {W : World}

/-- ARGS, all at once: below the heap's old size nothing has turned. -/
theorem Below.trodAll (hl : laidOutB P = true) {W' : World} (hb : Below W.heap.size W W') : ∀ {ts : List TypeId} {vs : List Value} {ds : List (DataW H)} {ps : List MemPlace}, (∀ t ∈ ts, P.readableRec t = true ∧ t < P.types.size) →
    DataW.TrodAll enc P W 0 (fun _ => true) true ts vs ds ps → (∀ x ∈ ps, x.block < W.heap.size) → DataW.TrodAll enc P W' 0 (fun b => decide (b < W.heap.size)) true ts vs ds ps
  | [], [], [], _, _, h, _ => h
  | _ :: _, _ :: _, _ :: _, _, ht, ⟨p, q, h1, h2, e⟩, hlt =>
    ⟨p, q, h1.elim fun n hn => Below.trod hl (ht _ (by simp)).1 (ht _ (by simp)).2 ⟨n, hn⟩ hb (fun x hx => hlt x (by rw [e]; exact List.mem_append_left _ hx)),
      Below.trodAll hl hb (fun t h => ht t (by simp [h])) h2 (fun x hx => hlt x (by rw [e]; exact List.mem_append_right _ hx)), e⟩

/-- POST of a law: true; the arguments as they were. -/
theorem law_post (hl : laidOutB P = true) {f : Func} {s : ChangeSpec} {W' : World} {args : Array Value} {ds gs : List (DataW H)} {before : List MemPlace} {tb : TypeId}
    (hts : ∀ t ∈ f.params.toList, P.readableRec t = true ∧ t < P.types.size) (hres : f.resultTypes = #[tb]) (hbt : P.underlying tb = some .bool) (hsv : s.vars = [])
    (hW : DataW.Whole enc P f.params.toList s.vars false W args.toList ds gs before) (hfn : s.fn H (ds ++ gs) = { results := [.lit (.bool true)], args := ds }) (hb : Below W.heap.size W W') :
    s.post enc P f false true false false W args (.bool true) W' := by
  have hlt := hW.lt
  have hW' := hW
  obtain ⟨p, q, hA, hV, rfl, _, _⟩ := hW
  rw [hsv] at hV
  obtain ⟨rfl, rfl⟩ := trodVars_none hV
  refine ⟨ds, [], p ++ [], [], p, [], hW', ?_, ?_, ?_, hb.frame _, fun h => by cases h⟩
  · rw [hfn, hres]
    exact trodAll_mk1 (shut_bool hbt true)
  · rw [hfn]
    exact Below.trodAll hl hb hts hA (fun x hx => by simpa using hlt x (by simpa using hx))
  · rw [hfn, hsv]
    rfl

theorem data_le {s : ByteArray} (h : s.size ≤ maxLen) : s.data.toList.length ≤ 9223372036854775807 := by
  have e : s.data.toList.length = s.size := rfl
  rw [e]; unfold maxLen at h; omega

/-- A text. -/
theorem open_str {r : Reach} {b0 : Nat} {t : TypeId} {v : Value} {d : DataW H} {ps : List MemPlace} (ht : P.underlying t = some .string) (hval : Value.okWide P W r b0 t v) (hd : DataW.Trod enc P W 0 (fun _ => true) true t v d ps) : ∃ l : List UInt8, v = .string (S l) ∧ l.length ≤ 9223372036854775807 := by
  obtain ⟨s, rfl, _, _, hs⟩ := open_string ht hval hd
  exact ⟨s.data.toList, rfl, data_le hs⟩

/-- A list of structs of a number and a text. -/
theorem open_toks {r : Reach} {b0 : Nat} {t e : TypeId} {f0 f1 : Field} {v : Value} {d : DataW H} {ps : List MemPlace} (ht : P.underlying t = some (.slice e)) (hval : Value.okWide P W r b0 t v) (he : P.underlying e = some (.struct #[f0, f1]))
    (ce : P.cellsOf e = 2) (o0 : f0.offset = 0) (o1 : f1.offset = 1) (c0 : P.cellsOf f0.type = 1) (c1 : P.cellsOf f1.type = 1) (u0 : P.underlying f0.type = some (.int .i64)) (u1 : P.underlying f1.type = some .string)
    (hd : DataW.Trod enc P W 0 (fun _ => true) true t v d ps) (hlt : ∀ x ∈ ps, x.block < W.heap.size) :
    ∃ l : List (Int × List UInt8), Rt W v l ∧ l.length ≤ 9223372036854775807 ∧ (∀ x ∈ l, x.2.length ≤ 9223372036854775807) ∧ ∀ x ∈ l, -9223372036854775808 ≤ x.1 ∧ x.1 ≤ 9223372036854775807 := by
  obtain ⟨a', len', cap', rfl⟩ := okWide_slice ht hval
  obtain ⟨fuel, hf⟩ := hd
  rcases Go.Deep.open_slice_pairs ht he ce o0 o1 c0 c1 hf with ⟨hc, _⟩ | ⟨a, len, cap, m, k, V0, V1, D0, D1, P0, P1, hc, _, hl, hm, hmm, hx, hall⟩
  · simp [Value.cells] at hc
    obtain ⟨rfl, rfl, rfl⟩ := hc
    exact ⟨[], ⟨rfl, .inl ⟨.inl rfl, rfl⟩⟩, by simp, by simp, by simp⟩
  · simp [Value.cells] at hc
    obtain ⟨rfl, rfl, rfl⟩ := hc
    simp only [if_true] at hmm
    subst hmm
    have key : ∀ i, i < m → ∃ (z : Int) (s : List UInt8), V0 i = .int .i64 z ∧ V1 i = .string (S s) ∧ s.length ≤ 9223372036854775807 ∧ (Lit.int .i64 z).wf = true := fun i hi => by
      obtain ⟨z, h1, _, h3⟩ := DataW.trod_int u0 (hall i hi).2.2.1
      obtain ⟨s, h4, _, h5⟩ := DataW.trod_string u1 (hall i hi).2.2.2
      simp only [List.cons.injEq, and_true] at h1 h4
      exact ⟨z, s.data.toList, h1, by rw [h4]; rfl, data_le h5, h3⟩
    have key2 : ∃ g : Nat → Int × List UInt8, ∀ i, i < m → V0 i = .int .i64 (g i).1 ∧ V1 i = .string (S (g i).2) ∧ (g i).2.length ≤ 9223372036854775807 ∧ (Lit.int .i64 (g i).1).wf = true := by
      refine ⟨fun i => if h : i < m then ((key i h).choose, (key i h).choose_spec.choose) else (0, []), fun i hi => ?_⟩
      simp only [hi, dite_true]
      exact (key i hi).choose_spec.choose_spec
    obtain ⟨g, hg⟩ := key2
    have hlen : ((List.range len').map g).length = len' := by simp
    refine ⟨(List.range len').map g, ⟨tcs_length _, ?_⟩, by rw [hlen]; unfold maxLen at hm; omega, ?_, ?_⟩
    · rw [hlen]
      by_cases h0 : len' = 0
      · subst h0
        exact .inl ⟨.inr ⟨_, _, rfl⟩, rfl⟩
      · obtain ⟨b, o, spot⟩ := a
        have hspot : spot = none := by simpa [Addr.add] using World.cell?_spot (hall 0 (by omega)).1
        subst hspot
        refine .inr ⟨b, o, m, rfl, fun _ => ?_, fun j u hj => ?_, by omega⟩
        · exact hlt (.cell b o) (by
            simp only [Prod.mk.injEq] at hx
            rw [hx.2]
            exact List.mem_append_left _ (MemPlace.mem_row.2 ⟨0, by omega, by simp⟩))
        · have hj2 : j < len' * 2 := by
            have := (List.getElem?_eq_some_iff.1 hj).1
            rw [tcs_length, hlen] at this
            exact this
          obtain ⟨i, hi, rfl | rfl⟩ : ∃ i, i < len' ∧ (j = i * 2 ∨ j = i * 2 + 1) := ⟨j / 2, by omega, by omega⟩
          · have h1 := (tcs_at ((List.range len').map g) i (by rw [hlen]; exact hi)).1
            rw [h1] at hj
            cases hj
            have h2 := (hall i (by omega)).1
            rw [addr_add] at h2
            rw [h2, (hg i (by omega)).1]
            simp
          · have h1 := (tcs_at ((List.range len').map g) i (by rw [hlen]; exact hi)).2
            rw [h1] at hj
            cases hj
            have h2 := (hall i (by omega)).2.1
            rw [addr_add] at h2
            rw [show o + (i * 2 + 1) = o + (i * 2 + 1) from rfl, h2, (hg i (by omega)).2.1]
            simp
    · intro x hx2
      obtain ⟨i, hi, rfl⟩ := List.mem_map.1 hx2
      exact (hg i (by have := List.mem_range.1 hi; omega)).2.2.1
    · intro x hx2
      obtain ⟨i, hi, rfl⟩ := List.mem_map.1 hx2
      have := (hg i (by have := List.mem_range.1 hi; omega)).2.2.2
      simp [Lit.wf, IntKind.min, IntKind.max, IntKind.signed, IntKind.bits] at this
      exact this
end

end Go.Proofs.YteahcmgdlbpmiaaGreatDoor

namespace Go.Proofs.YteahcmgdlbpmiaaGreatDoor
open Go.ChangeShapes Go.WideShapes Go.ChangeAt Go.RowKit Go.ChangeMaps

section
variable {H : Type} {enc : TypeId × Value → H} {P : Program} {W : World}

/-- A list of structs of two texts. -/
theorem open_files {r : Reach} {b0 : Nat} {t e : TypeId} {f0 f1 : Field} {v : Value} {d : DataW H} {ps : List MemPlace} (ht : P.underlying t = some (.slice e)) (hval : Value.okWide P W r b0 t v) (he : P.underlying e = some (.struct #[f0, f1]))
    (ce : P.cellsOf e = 2) (o0 : f0.offset = 0) (o1 : f1.offset = 1) (c0 : P.cellsOf f0.type = 1) (c1 : P.cellsOf f1.type = 1) (u0 : P.underlying f0.type = some .string) (u1 : P.underlying f1.type = some .string)
    (hd : DataW.Trod enc P W 0 (fun _ => true) true t v d ps) (hlt : ∀ x ∈ ps, x.block < W.heap.size) :
    ∃ l : List Fl, Rf W v l ∧ l.length ≤ 9223372036854775807 ∧ ∀ x ∈ l, x.1.length ≤ 9223372036854775807 ∧ x.2.length ≤ 9223372036854775807 := by
  obtain ⟨a', len', cap', rfl⟩ := okWide_slice ht hval
  obtain ⟨fuel, hf⟩ := hd
  rcases Go.Deep.open_slice_pairs ht he ce o0 o1 c0 c1 hf with ⟨hc, _⟩ | ⟨a, len, cap, m, k, V0, V1, D0, D1, P0, P1, hc, _, hl, hm, hmm, hx, hall⟩
  · simp [Value.cells] at hc
    obtain ⟨rfl, rfl, rfl⟩ := hc
    exact ⟨[], ⟨rfl, .inl ⟨.inl rfl, rfl⟩⟩, by simp, by simp⟩
  · simp [Value.cells] at hc
    obtain ⟨rfl, rfl, rfl⟩ := hc
    simp only [if_true] at hmm
    subst hmm
    have key : ∀ i, i < m → ∃ (z s : List UInt8), V0 i = .string (S z) ∧ V1 i = .string (S s) ∧ s.length ≤ 9223372036854775807 ∧ z.length ≤ 9223372036854775807 := fun i hi => by
      obtain ⟨z, h1, _, h3⟩ := DataW.trod_string u0 (hall i hi).2.2.1
      obtain ⟨s, h4, _, h5⟩ := DataW.trod_string u1 (hall i hi).2.2.2
      simp only [List.cons.injEq, and_true] at h1 h4
      exact ⟨z.data.toList, s.data.toList, by rw [h1]; rfl, by rw [h4]; rfl, data_le h5, data_le h3⟩
    have key2 : ∃ g : Nat → Fl, ∀ i, i < m → V0 i = .string (S (g i).1) ∧ V1 i = .string (S (g i).2) ∧ (g i).2.length ≤ 9223372036854775807 ∧ (g i).1.length ≤ 9223372036854775807 := by
      refine ⟨fun i => if h : i < m then ((key i h).choose, (key i h).choose_spec.choose) else ([], []), fun i hi => ?_⟩
      simp only [hi, dite_true]
      exact (key i hi).choose_spec.choose_spec
    obtain ⟨g, hg⟩ := key2
    have hlen : ((List.range len').map g).length = len' := by simp
    refine ⟨(List.range len').map g, ⟨fcs_length _, ?_⟩, by rw [hlen]; unfold maxLen at hm; omega, ?_⟩
    · rw [hlen]
      by_cases h0 : len' = 0
      · subst h0
        exact .inl ⟨.inr ⟨_, _, rfl⟩, rfl⟩
      · obtain ⟨b, o, spot⟩ := a
        have hspot : spot = none := by simpa [Addr.add] using World.cell?_spot (hall 0 (by omega)).1
        subst hspot
        refine .inr ⟨b, o, m, rfl, fun _ => ?_, fun j u hj => ?_, by omega⟩
        · exact hlt (.cell b o) (by
            simp only [Prod.mk.injEq] at hx
            rw [hx.2]
            exact List.mem_append_left _ (MemPlace.mem_row.2 ⟨0, by omega, by simp⟩))
        · have hj2 : j < len' * 2 := by
            have := (List.getElem?_eq_some_iff.1 hj).1
            rw [fcs_length, hlen] at this
            exact this
          obtain ⟨i, hi, rfl | rfl⟩ : ∃ i, i < len' ∧ (j = i * 2 ∨ j = i * 2 + 1) := ⟨j / 2, by omega, by omega⟩
          · have h1 := (fcs_at ((List.range len').map g) i (by rw [hlen]; exact hi)).1
            rw [h1] at hj
            cases hj
            have h2 := (hall i (by omega)).1
            rw [addr_add] at h2
            rw [h2, (hg i (by omega)).1]
            simp
          · have h1 := (fcs_at ((List.range len').map g) i (by rw [hlen]; exact hi)).2
            rw [h1] at hj
            cases hj
            have h2 := (hall i (by omega)).2.1
            rw [addr_add] at h2
            rw [show o + (i * 2 + 1) = o + (i * 2 + 1) from rfl, h2, (hg i (by omega)).2.1]
            simp
    · intro x hx2
      obtain ⟨i, hi, rfl⟩ := List.mem_map.1 hx2
      have := hg i (by have := List.mem_range.1 hi; omega)
      exact ⟨this.2.2.2, this.2.2.1⟩

/-- A file. -/
theorem open_file {r : Reach} {b0 : Nat} {t : TypeId} {f0 f1 : Field} {v : Value} {d : DataW H} {ps : List MemPlace} (ht : P.underlying t = some (.struct #[f0, f1])) (hval : Value.okWide P W r b0 t v)
    (ce : P.cellsOf t = 2) (o0 : f0.offset = 0) (o1 : f1.offset = 1) (c0 : P.cellsOf f0.type = 1) (c1 : P.cellsOf f1.type = 1) (u0 : P.underlying f0.type = some .string) (u1 : P.underlying f1.type = some .string)
    (hd : DataW.Trod enc P W 0 (fun _ => true) true t v d ps) :
    ∃ f : Fl, v = .agg #[.string (S f.1), .string (S f.2)] ∧ f.1.length ≤ 9223372036854775807 ∧ f.2.length ≤ 9223372036854775807 := by
  have h1 : ∃ cs, v = .agg cs ∧ cs.size = P.cellsOf t ∧ Row.okWide P W r b0 t cs := by
    unfold Value.okWide at hval
    rw [ht] at hval
    exact hval
  obtain ⟨cs, rfl, hsz, _⟩ := h1
  rw [ce] at hsz
  obtain ⟨cl⟩ := cs
  match cl, hsz with
  | [a, b], _ =>
    obtain ⟨fuel, hf⟩ := hd
    have hf : DataW.trod enc P W 0 (fun _ => true) true fuel t [a, b] = some (d, ps) := by simpa [Value.cells] using hf
    obtain ⟨y0, y1, n, _, _, h0, h1⟩ := trod_struct2 ht hf
    rw [o0, c0] at h0
    rw [o1, c1] at h1
    obtain ⟨z, e0, _, l0⟩ := DataW.trod_string u0 h0
    obtain ⟨s, e1, _, l1⟩ := DataW.trod_string u1 h1
    simp at e0 e1
    subst e0 e1
    exact ⟨(z.data.toList, s.data.toList), rfl, data_le l0, data_le l1⟩

/-- A list of truth values. -/
theorem open_boolsR {r : Reach} {b0 : Nat} {t e : TypeId} {v : Value} {d : DataW H} {ps : List MemPlace} (ht : P.underlying t = some (.slice e)) (hval : Value.okWide P W r b0 t v) (he : P.underlying e = some .bool) (ce : P.cellsOf e = 1)
    (hd : DataW.Trod enc P W 0 (fun _ => true) true t v d ps) (hlt : ∀ x ∈ ps, x.block < W.heap.size) :
    ∃ bs : List Bool, Rd W 1 v bs.length (bs.map Value.bool) ∧ bs.length ≤ 9223372036854775807 := by
  obtain ⟨a', len', cap', rfl⟩ := okWide_slice ht hval
  obtain ⟨fuel, hf⟩ := hd
  rcases Go.Deep.open_bools ht he ce hf with ⟨hc, _⟩ | ⟨a, len, cap, B, hc, _, hl, hm, hx, hall⟩
  · simp [Value.cells] at hc
    obtain ⟨rfl, rfl, rfl⟩ := hc
    exact ⟨[], ⟨rfl, .inl ⟨.inl rfl, rfl⟩⟩, by simp⟩
  · simp [Value.cells] at hc
    obtain ⟨rfl, rfl, rfl⟩ := hc
    have hps : ps = MemPlace.row a cap' := by simp only [Prod.mk.injEq] at hx; exact hx.2
    have hlen : ((List.range len').map B).length = len' := by simp
    refine ⟨(List.range len').map B, ⟨by simp, ?_⟩, by rw [hlen]; unfold maxLen at hm; omega⟩
    rw [hlen]
    by_cases h0 : len' = 0
    · subst h0
      exact .inl ⟨.inr ⟨_, _, rfl⟩, rfl⟩
    · obtain ⟨b, o, spot⟩ := a
      have hspot : spot = none := by simpa [Addr.add] using World.cell?_spot (hall 0 (by omega))
      subst hspot
      refine .inr ⟨b, o, cap', rfl, fun _ => ?_, fun j u hj => ?_, by omega⟩
      · exact hlt (.cell b o) (by
          rw [hps]
          exact MemPlace.mem_row.2 ⟨0, by omega, by simp⟩)
      · have hj2 : j < len' := by
          have := (List.getElem?_eq_some_iff.1 hj).1
          simpa using this
        rw [List.getElem?_map, List.getElem?_map, List.getElem?_range hj2] at hj
        simp at hj
        subst hj
        have h2 := hall j (by omega)
        rw [addr_add] at h2
        exact h2
end

end Go.Proofs.YteahcmgdlbpmiaaGreatDoor

namespace Go.Proofs.YteahcmgdlbpmiaaGreatDoor
open Go.ChangeShapes Go.WideShapes Go.ChangeAt Go.RowKit Go.ChangeMaps

theorem u8_rangeX {z : Int} (h : (Lit.int .u8 z).wf = true) : 0 ≤ z ∧ z ≤ 255 := by
  simp [Lit.wf, IntKind.min, IntKind.max, IntKind.signed, IntKind.bits] at h
  exact h
section
variable {H : Type} {enc : TypeId × Value → H} {P : Program} {W : World}

/-- Two numbers. -/
theorem open_ints2 {r : Reach} {b0 : Nat} {t e : TypeId} {k : IntKind} {v : Value} {d : DataW H} {ps : List MemPlace} (ht : P.underlying t = some (.array 2 e)) (ct : P.cellsOf t = 2) (hval : Value.okWide P W r b0 t v) (he : P.underlying e = some (.int k)) (cE : P.cellsOf e = 1)
    (hd : DataW.Trod enc P W 0 (fun _ => true) true t v d ps) :
    ∃ y z, v = .agg #[.int k y, .int k z] ∧ (Lit.int k y).wf = true ∧ (Lit.int k z).wf = true := by
  have h1 : ∃ cs, v = .agg cs ∧ cs.size = P.cellsOf t ∧ Row.okWide P W r b0 t cs := by
    unfold Value.okWide at hval
    rw [ht] at hval
    exact hval
  obtain ⟨cs, rfl, hsz, _⟩ := h1
  rw [ct] at hsz
  obtain ⟨cl⟩ := cs
  match cl, hsz with
  | [a, b], _ =>
    obtain ⟨fuel, hf⟩ := hd
    have hf : DataW.trod enc P W 0 (fun _ => true) true fuel t [a, b] = some (d, ps) := by simpa [Value.cells] using hf
    obtain ⟨xs, m, _, hx, _, hl, hall⟩ := DataW.trod_array ht hf
    have key : ∀ (i : Nat) (hi : i < 2) (u : Value), (([a, b] : List Value).drop (i * 1)).take 1 = [u] → ∃ z, u = .int k z ∧ (Lit.int k z).wf = true := fun i hi u hu => by
      have h := hall i hi
      rw [cE, hu, List.getElem?_eq_getElem (by omega)] at h
      obtain ⟨z, h1, _, h3⟩ := DataW.trod_int he h
      simp only [List.cons.injEq, and_true] at h1
      exact ⟨z, h1, h3⟩
    obtain ⟨y, rfl, h3⟩ := key 0 (by omega) a rfl
    obtain ⟨z, rfl, h5⟩ := key 1 (by omega) b rfl
    exact ⟨y, z, rfl, h3, h5⟩

/-- Two texts. -/
theorem open_strs2 {r : Reach} {b0 : Nat} {t e : TypeId} {v : Value} {d : DataW H} {ps : List MemPlace} (ht : P.underlying t = some (.array 2 e)) (ct : P.cellsOf t = 2) (hval : Value.okWide P W r b0 t v) (he : P.underlying e = some .string) (cE : P.cellsOf e = 1)
    (hd : DataW.Trod enc P W 0 (fun _ => true) true t v d ps) :
    ∃ x y : List UInt8, v = .agg #[.string (S x), .string (S y)] ∧ x.length ≤ 9223372036854775807 ∧ y.length ≤ 9223372036854775807 := by
  have h1 : ∃ cs, v = .agg cs ∧ cs.size = P.cellsOf t ∧ Row.okWide P W r b0 t cs := by
    unfold Value.okWide at hval
    rw [ht] at hval
    exact hval
  obtain ⟨cs, rfl, hsz, _⟩ := h1
  rw [ct] at hsz
  obtain ⟨cl⟩ := cs
  match cl, hsz with
  | [a, b], _ =>
    obtain ⟨fuel, hf⟩ := hd
    have hf : DataW.trod enc P W 0 (fun _ => true) true fuel t [a, b] = some (d, ps) := by simpa [Value.cells] using hf
    obtain ⟨xs, m, _, hx, _, hl, hall⟩ := DataW.trod_array ht hf
    have key : ∀ (i : Nat) (hi : i < 2) (u : Value), (([a, b] : List Value).drop (i * 1)).take 1 = [u] → ∃ z : List UInt8, u = .string (S z) ∧ z.length ≤ 9223372036854775807 := fun i hi u hu => by
      have h := hall i hi
      rw [cE, hu, List.getElem?_eq_getElem (by omega)] at h
      obtain ⟨z, h1, _, h3⟩ := DataW.trod_string he h
      simp only [List.cons.injEq, and_true] at h1
      exact ⟨z.data.toList, by rw [h1]; rfl, data_le h3⟩
    obtain ⟨y, rfl, h3⟩ := key 0 (by omega) a rfl
    obtain ⟨z, rfl, h5⟩ := key 1 (by omega) b rfl
    exact ⟨y, z, rfl, h3, h5⟩
end
end Go.Proofs.YteahcmgdlbpmiaaGreatDoor

namespace Go.Proofs.YteahcmgdlbpmiaaGreatDoor
open Go.ChangeShapes Go.WideShapes Go.ChangeAt Go.RowKit

set_option maxRecDepth 100000 in
theorem expandCalls_lifted (os : Os) (started : os.Started) (H : Type) (enc : TypeId × Value → H) :
    ReturnsInHanded {} Tryz.checked os 7 .any (fun w args => (Rows.expandCallsSpec.pre enc Tryz.prog Tryz.f7 [] false w args ∧ laidMetH Tryz.prog [("errors.errorType", Rows.laid_errors_errorType)] w) ∧ sizedMet enc Tryz.prog Tryz.f7 (OpenSpec.ofChange Rows.expandCallsSpec) false w args)
      (Rows.expandCallsSpec.post enc Tryz.prog Tryz.f7 false true false false) := by
  refine returnsInHanded_of_change_and (C := Tryz.checked) (X := fun w _ => laidMetH Tryz.prog [("errors.errorType", Rows.laid_errors_errorType)] w) (fun _ _ _ hh h => h.of_heap hh) own started (by kernel_rfl) Tryz.func7
    (ChangeSpec.witness_at (enc := enc) (C := Tryz.checked) (os := os) (X := fun w _ => laidMetH Tryz.prog [("errors.errorType", Rows.laid_errors_errorType)] w) false (laidWorld os) #[.agg #[.string ⟨#[]⟩, .string ⟨#[]⟩]] 8 rfl (by kernel_rfl) (by kernel_rfl) (by kernel_rfl) (by kernel_rfl) (by kernel_rfl) (laidWorld_met os _)) ?_
  intro W base args ds gs before hval0 hW _ _ hL _
  have hval : ∀ (j : Nat) t v, Tryz.f7.params[j]? = some t → args[j]? = some v → Value.okWide Tryz.prog W .any base t v := hval0
  clear hval0
  have hg := gl_of_laid hL
  have hg0 := gl_pos hg
  have hW' := hW
  have hlt := hW.lt
  obtain ⟨p, q, hA0, hV, rfl, _, _⟩ := hW'
  have hA : DataW.TrodAll enc Tryz.prog W 0 (fun _ => true) true Tryz.f7.params.toList args.toList ds p := hA0
  rw [Tryz.params7] at hA hval
  obtain ⟨v0, d0, rfl, rfl, h0⟩ := trodAll_one hA
  obtain ⟨rfl, rfl⟩ := trodVars_none hV
  obtain ⟨x0, y0, rfl, hx0, hy0⟩ := open_strs2 Tryz.underlying56 (by kernel_rfl) (hval 0 56 v0 rfl rfl) Tryz.underlying9 (by kernel_rfl) h0
  refine (expandCalls_any x0 y0 W hx0 hy0 hg hg0).mono fun e W' ⟨he, hb⟩ => ?_
  subst he
  exact ⟨_, rfl, law_post laidOut (by rw [Tryz.params7]; decide +kernel) rfl Tryz.underlying4 rfl hW rfl hb⟩

/-- 'ExpandCalls': WHATEVER THE INPUT: true. -/
theorem expandCalls_holds : Rows.ExpandCallsSaid :=
  OpenClaim.holds_of_wide 7 Tryz.f7 rfl rfl rfl rfl rfl rfl rfl ⟨rfl, rfl, rfl, rfl, rfl⟩ rfl rfl rfl rfl rfl (by kernel_rfl) Tryz.func7 (by kernel_rfl)
    (of_decide_eq_true (by kernel_rfl)) (by unfold Func.isWrapper; rw [if_neg (of_decide_eq_false (by kernel_rfl))]; exact ⟨rfl, rfl⟩)
    (fun os started H enc _ => expandCalls_lifted os started H enc)

/-- THE TIED CARD of 'ExpandCalls'. -/
theorem expandCalls_card : Rows.ExpandCallsCardSaid :=
  Claim7.holds_tied_plain_at .later [] [.handle] true (true, "8d427c4657ce2c05cbe287717eb2b8b5561e5d2abbea2bfde373ddf3dc39585d") true
    expandCalls_holds (fun _ h => by cases h) (by kernel_rfl) (fun _ h => by cases h) expandCalls_row_tie rfl ⟨rfl, rfl⟩ (by kernel_rfl) rfl
    (fun f fn hf hfn => by
      obtain rfl : f = 7 := Option.some.inj ((show Tryz.prog.funcNamed "stet/stetlaw08.ExpandCalls" = some 7 by kernel_rfl).symm.trans hf) |>.symm
      obtain rfl : fn = Tryz.f7 := (Option.some.inj (Tryz.func7.symm.trans hfn)).symm
      exact ⟨by kernel_rfl, fun j t ht => by
        rw [Tryz.params7] at ht
        rcases j with _ | j
        · obtain rfl : t = 56 := by simpa using ht.symm
          exact (show Tryz.prog.wantsStandIn 56 = false by kernel_rfl)
        · simp at ht⟩)
    (by kernel_rfl)

end Go.Proofs.YteahcmgdlbpmiaaGreatDoor
