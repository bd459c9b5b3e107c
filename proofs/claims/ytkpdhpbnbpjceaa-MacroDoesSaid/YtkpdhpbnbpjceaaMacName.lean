
/- The macro layer: names; where a macro is. No condition. -/
import Derived.Test.YtkpdhpbnbpjceaaMacMem
import Derived.Test.YtkpdhpbnbpjceaaOrd
namespace Go.Proofs.Ytkpdhpbnbpjceaa
open Go.RowKit

namespace Mx
open Lx
def isL (c : UInt8) : Bool := (97 ≤ c && c ≤ 122) || (65 ≤ c && c ≤ 90)
def named (s : Bytes) : Bool := s.all isL && (1 ≤ s.length && s.length ≤ 20)
end Mx

theorem isL_bits_nat : ∀ n : Fin 256, Mx.isL (UInt8.ofNat n.val) = decide (97 ≤ bits .or .u8 (n.val : Int) 32 ∧ bits .or .u8 (n.val : Int) 32 ≤ 122) := by decide +kernel
theorem isL_bits (c : UInt8) : Mx.isL c = decide (97 ≤ bits .or .u8 (c.toNat : Int) 32 ∧ bits .or .u8 (c.toNat : Int) 32 ≤ 122) := by
  have := isL_bits_nat ⟨c.toNat, c.toNat_lt⟩
  simpa using this

set_option maxHeartbeats 1600000 in
theorem named_any (s : List UInt8) (hs : s.length ≤ 1000000000) (w : World) :
    Calls Try.prog 46 #[.string (S s)] w fun e w' => e = .returned (.bool (Mx.named s)) ∧ w' = w := by
  go_enter Try.func46, Try.ntmps46
  go_wp2_with fail
  go_loop [7] (fun i => ∃ (k : Nat), k ≤ s.length ∧ i = .int .i64 k ∧ Hid ((s.take k).all Mx.isL = true)) (fun i => s.length - (intOf i).toNat)
  case atStart => exact ⟨0, Nat.zero_le _, rfl, rfl⟩
  case round =>
    obtain ⟨k, hk, rfl, HC⟩ := hrel
    by_cases hlt : k < s.length
    · have hL := isL_bits s[k]
      obtain ⟨d, hd⟩ : ∃ d : Int, bits .or .u8 (s[k].toNat : Int) 32 = d := ⟨_, rfl⟩
      rw [hd] at hL
      by_cases h1 : d < 97
      · have HF := Lib.hid (show Mx.named s = false by
          have : Mx.isL s[k] = false := by rw [hL]; simp; omega
          have h2 : s.all Mx.isL = false := by rw [List.all_eq_false]; exact ⟨s[k], List.getElem_mem hlt, by simp [this]⟩
          rw [Mx.named, h2]; rfl)
        clear hL
        go_wp2_with fail
        go_ret
        exact ⟨ret_bool HF.out.symm, rfl⟩
      · by_cases h2 : 122 < d
        · have HF := Lib.hid (show Mx.named s = false by
            have : Mx.isL s[k] = false := by rw [hL]; simp; omega
            have h2 : s.all Mx.isL = false := by rw [List.all_eq_false]; exact ⟨s[k], List.getElem_mem hlt, by simp [this]⟩
            rw [Mx.named, h2]; rfl)
          clear hL
          go_wp2_with fail
          go_ret
          exact ⟨ret_bool HF.out.symm, rfl⟩
        · have HN := Lib.hid (show (s.take (k + 1)).all Mx.isL = true by
            have : Mx.isL s[k] = true := by rw [hL]; simp; omega
            rw [take_snoc s k hlt, List.all_append, HC.out]; simp [this])
          clear hL
          go_wp2_with fail
          go_round
          case rel => exact ⟨k + 1, by omega, by go_num, HN⟩
          case measure => simp [intOf]; omega
    · obtain rfl : k = s.length := by omega
      have HN := Lib.hid (show Mx.named s = (decide (1 ≤ s.length) && decide (s.length ≤ 20)) by
        have := HC.out
        rw [List.take_length] at this
        rw [Mx.named, this]; rfl)
      cases h1 : decide ((1 : Int) ≤ (s.length : Int))
      · have HB := Lib.hid (show Mx.named s = false by
          have : ¬ (1 ≤ s.length) := by have := of_decide_eq_false h1; omega
          rw [HN.out, decide_eq_false this]; rfl)
        go_wp2_with fail
        go_ret
        exact ⟨ret_bool HB.out.symm, rfl⟩
      · cases h2 : decide ((s.length : Int) ≤ 20)
        · go_wp2_with fail
          go_ret
          exact ⟨ret_bool (by rw [HN.out]; simp at h1 h2 ⊢; omega), rfl⟩
        · go_wp2_with fail
          go_ret
          exact ⟨ret_bool (by rw [HN.out]; simp at h1 h2 ⊢; omega), rfl⟩

set_option maxHeartbeats 1600000 in
theorem cmpf_any (n t : List UInt8) (p : Int) (b : Value) (w : World) :
    Calls Try.prog 56 #[.agg #[.string (S n), .int .i64 p, b], .string (S t)] w fun e w' => e = .returned (.int .i64 (Lib.compareBytes n t)) ∧ Below w.heap.size w w' := by
  go_enter Try.func56, Try.ntmps56
  go_wp2_with fail
  (with_reducible refine (Try.strings_Compare (S n) (S t) _).mono ?_); rintro e w2 ⟨rfl, rfl⟩
  rw [S_dataList, S_dataList]
  go_wp2_with fail
  go_ret
  exact ⟨rfl, (Below.refl _ _).alloc (Nat.le_refl _) _⟩

set_option maxRecDepth 20000 in
set_option maxHeartbeats 1600000 in
/-- 'slices.BinarySearchFunc' of macros, by their names. -/
theorem bin_any (v : Value) (ps : List (Mac × Value)) (t : List UInt8) (w : World) (hl : Rd w 3 v ps.length (mcs ps)) (hlen : ps.length ≤ 1000000) (hs : Sorted (ps.map fun p => p.1.1)) :
    Calls Try.prog 55 #[v, .string (S t), .func (.func 56) #[] #[]] w fun e w' => e = .returned (.tuple #[.int .i64 (lb (ps.map fun p => p.1.1) t : Nat), .bool ((ps.map fun p => p.1.1)[lb (ps.map fun p => p.1.1) t]? == some t)]) ∧ Below w.heap.size w w' := by
  obtain ⟨a0, c0, rfl⟩ := hl.shape
  have A := Lib.hid hl
  have SO := Lib.hid hs
  clear hl hs
  obtain ⟨ns, hns⟩ : ∃ ns, ns = ps.map fun p => p.1.1 := ⟨_, rfl⟩
  rw [← hns] at SO ⊢
  have hnl : ns.length = ps.length := by rw [hns]; simp
  have hnat : ∀ x (h : x < ps.length), ns[x]? = some ps[x].1.1 := by intro x h; subst hns; simp [h]
  have HN := Lib.hid hns
  clear hns
  have HNL := Lib.hid hnl
  go_enter Try.func55, Try.ntmps55
  go_wp2_with fail
  go_loopw [9, 10] (fun vi vj wr => ∃ i j : Nat, vi = .int .i64 i ∧ vj = .int .i64 j ∧ i ≤ j ∧ j ≤ ps.length ∧ Hid (∀ x (h : x < ns.length), x < i → Lib.compareBytes ns[x] t < 0) ∧ Hid (∀ x (h : x < ns.length), j ≤ x → 0 ≤ Lib.compareBytes ns[x] t) ∧ Below w.heap.size w wr) (fun vi vj _ => (intOf vj).toNat - (intOf vi).toNat)
  case atStart => exact ⟨0, ps.length, rfl, rfl, Nat.zero_le _, Nat.le_refl _, Lib.hid (by intro x _ h; omega), Lib.hid (by intro x h h2; have := HNL.out; omega), Below.refl _ _⟩
  case round =>
    obtain ⟨i, j, rfl, rfl, hij, hj, H1, H2, hbw⟩ := hrel
    have hsz := hbw.size
    by_cases hlt : i < j
    · obtain ⟨h, hh⟩ : ∃ h, h = (i + j) / 2 := ⟨_, rfl⟩
      have hhl : h < ps.length := by omega
      have hhi : i ≤ h := by omega
      have hhj : h < j := by omega
      obtain ⟨b1, o1, rfl, c1, c2, c3⟩ := mac_at (A.out.below' hbw) hhl
      have hq : ((i : Int) + (j : Int)) / 2 = (h : Int) := by omega
      have hnh := hnat h hhl
      have hnh2 : ns[h]'(by rw [HNL.out]; exact hhl) = ps[h].1.1 := by
        have := List.getElem?_eq_some_iff.1 hnh
        exact this.2
      obtain ⟨⟨⟨nm, pm, bm⟩, bv⟩, hp⟩ : ∃ x, x = ps[h] := ⟨_, rfl⟩
      rw [← hp] at c1 c2 c3 hnh2
      have hnh2 : ns[h]'(by rw [HNL.out]; exact hhl) = nm := hnh2
      clear hh hp hnh
      rcases (by omega : Lib.compareBytes nm t < 0 ∨ 0 ≤ Lib.compareBytes nm t) with hc | hc
      · have HX := Lib.hid (show ∀ x (hx : x < ns.length), x < h + 1 → Lib.compareBytes ns[x] t < 0 by
          intro x hx hxh
          by_cases e : x = h
          · subst e; rw [hnh2]; exact hc
          · have h3 : Lib.compareBytes ns[x] ns[h] < 0 := List.pairwise_iff_getElem.1 SO.out x h hx (by omega) (by omega)
            rw [hnh2] at h3
            exact cb_trans h3 hc)
        have HC := Lib.hid hc
        obtain ⟨z, hz⟩ : ∃ z, z = Lib.compareBytes nm t := ⟨_, rfl⟩
        rw [← hz] at hc
        have HZ := Lib.hid hz
        clear hz hnh2 hnat
        go_wp2_with fail
        (with_reducible refine (cmpf_any nm t pm bv wr).mono ?_); rintro e w2 ⟨rfl, b2⟩
        rw [← HZ.out]
        go_wp2_with fail
        go_roundw
        case rel => exact ⟨h + 1, j, by go_num, rfl, by omega, hj, HX, H2, hbw.trans (b2.mono hsz)⟩
        case measure => simp [intOf]; omega
      · have HX := Lib.hid (show ∀ x (hx : x < ns.length), h ≤ x → 0 ≤ Lib.compareBytes ns[x] t by
          intro x hx hxh
          by_cases e : x = h
          · subst e; rw [hnh2]; exact hc
          · have h3 : Lib.compareBytes ns[h] ns[x] < 0 := List.pairwise_iff_getElem.1 SO.out h x (by omega) hx (by omega)
            rw [hnh2] at h3
            rcases (by omega : 0 ≤ Lib.compareBytes ns[x] t ∨ Lib.compareBytes ns[x] t < 0) with h4 | h4
            · exact h4
            · have := cb_trans h3 h4; omega)
        obtain ⟨z, hz⟩ : ∃ z, z = Lib.compareBytes nm t := ⟨_, rfl⟩
        rw [← hz] at hc
        have HZ := Lib.hid hz
        clear hz hnh2 hnat
        go_wp2_with fail
        (with_reducible refine (cmpf_any nm t pm bv wr).mono ?_); rintro e w2 ⟨rfl, b2⟩
        rw [← HZ.out]
        go_wp2_with fail
        go_roundw
        case rel => exact ⟨i, h, rfl, rfl, hhi, by omega, H1, HX, hbw.trans (b2.mono hsz)⟩
        case measure => simp [intOf]; omega
    · obtain rfl : i = j := by omega
      have HL := Lib.hid (lb_eq (ns := ns) (t := t) (i := i) (by rw [HNL.out]; exact hj) H1.out (fun hi => by have := H2.out i hi (Nat.le_refl _); omega))
      by_cases hin : i < ps.length
      · obtain ⟨b1, o1, rfl, c1, c2, c3⟩ := mac_at (A.out.below' hbw) hin
        have hnh := hnat i hin
        obtain ⟨⟨⟨nm, pm, bm⟩, bv⟩, hp⟩ : ∃ x, x = ps[i] := ⟨_, rfl⟩
        rw [← hp] at c1 c2 c3 hnh
        obtain ⟨z, hz⟩ : ∃ z, z = Lib.compareBytes nm t := ⟨_, rfl⟩
        have HR := Lib.hid (show (ns[lb ns t]? == some t) = (z == 0) by
          rw [HL.out, hnh, hz]
          by_cases e : nm = t
          · subst e; rw [cb_self]; simp
          · have : ¬ Lib.compareBytes nm t = 0 := fun h => e (cb_eq h)
            have h1 : (nm == t) = false := by simpa using e
            have h2 : (Lib.compareBytes nm t == 0) = false := by simpa using this
            rw [h2]; exact h1)
        have HZ := Lib.hid hz
        clear hz hnh hp hnat
        have hiz : (i : Int) < (ps.length : Int) := by omega
        go_wp2_with fail
        (with_reducible refine (cmpf_any nm t pm bv wr).mono ?_); rintro e w2 ⟨rfl, b2⟩
        rw [← HZ.out]
        go_wp2_with fail
        go_ret2
        exact ⟨by rw [HR.out, HL.out]; rfl, hbw.trans (b2.mono hsz)⟩
      · have HR := Lib.hid (show (ns[lb ns t]? == some t) = false by
          rw [HL.out, List.getElem?_eq_none (by rw [HNL.out]; omega)]; rfl)
        have hiz : decide ((i : Int) < (ps.length : Int)) = false := by simp; omega
        clear hnat
        go_wp2_with fail
        go_ret2
        exact ⟨by rw [HR.out, HL.out]; rfl, hbw⟩

set_option maxHeartbeats 1600000 in
/-- 'find': where a macro is, or would be. -/
theorem find_any (v : Value) (ps : List (Mac × Value)) (t : List UInt8) (w : World) (hl : Rd w 3 v ps.length (mcs ps)) (hlen : ps.length ≤ 1000000) (hs : Sorted (ps.map fun p => p.1.1)) :
    Calls Try.prog 43 #[v, .string (S t)] w fun e w' => e = .returned (.tuple #[.int .i64 (lb (ps.map fun p => p.1.1) t : Nat), .bool ((ps.map fun p => p.1.1)[lb (ps.map fun p => p.1.1) t]? == some t)]) ∧ Below w.heap.size w w' := by
  have HB := Lib.hid (bin_any v ps t w hl hlen hs)
  obtain ⟨a0, c0, rfl⟩ := hl.shape
  obtain ⟨r, hr⟩ : ∃ r, r = lb (ps.map fun p => p.1.1) t := ⟨_, rfl⟩
  obtain ⟨q, hq⟩ : ∃ q, q = ((ps.map fun p => p.1.1)[lb (ps.map fun p => p.1.1) t]? == some t) := ⟨_, rfl⟩
  rw [← hq, ← hr] at HB ⊢
  clear hq hr hl hs
  go_enter Try.func43, Try.ntmps43
  go_wp2_with fail
  (with_reducible refine HB.out.mono ?_); rintro e w2 ⟨rfl, b2⟩
  go_wp2_with fail
  go_ret2
  exact ⟨rfl, b2⟩

end Go.Proofs.Ytkpdhpbnbpjceaa
