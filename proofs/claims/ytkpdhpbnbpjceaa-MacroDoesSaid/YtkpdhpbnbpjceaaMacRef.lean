
/- The macro layer's reference: where a group ends. No condition. -/
import Derived.Test.YtkpdhpbnbpjceaaLexMem
import Derived.Test.YtkpdhpbnbpjceaaMacPure
import Derived.Lib.Hide
namespace Go.Proofs.Ytkpdhpbnbpjceaa
open Go.RowKit

/-- What 'Group' answers where the place is one. -/
def gres (p : Nat) : Option Nat → Int × Int
  | some n => ((p : Int) + n, 0)
  | none => (0, 10)
theorem groupAt_in (l : List Lx.Tok) (p : Nat) (hp : p ≤ l.length) : Mx.groupAt l p = gres p (Mx.group (l.drop p)) := by
  unfold Mx.groupAt
  rw [if_neg (by omega), Int.toNat_natCast]
  cases Mx.group (l.drop p) <;> rfl

theorem close_next {l : List Lx.Tok} {p k dd d2 : Nat} (h : k < l.length) (hp : p ≤ k) (hc : Mx.close 0 (l.drop p) = (Mx.close dd (l.drop k)).map (· + (k - p))) (hs : Mx.step dd l[k] = d2) (hd : d2 ≠ 0) :
    Mx.close 0 (l.drop p) = (Mx.close d2 (l.drop (k + 1))).map (· + (k + 1 - p)) := by
  rw [hc, drop_at h, Mx.close, hs, if_neg hd, Option.map_map]
  congr 1
  funext x
  simp; omega
theorem close_stop {l : List Lx.Tok} {p k dd : Nat} (h : k < l.length) (hc : Mx.close 0 (l.drop p) = (Mx.close dd (l.drop k)).map (· + (k - p))) (hs : Mx.step dd l[k] = 0) :
    Mx.close 0 (l.drop p) = some (1 + (k - p)) := by
  rw [hc, drop_at h, Mx.close, hs, if_pos rfl]; rfl

theorem ret_two {a b a' b' : Int} (h1 : a = a') (h2 : b = b') : Ending.returned (.tuple #[.int .i64 a, .int .i64 b]) = .returned (.tuple #[.int .i64 a', .int .i64 b']) := by rw [h1, h2]

set_option maxHeartbeats 1600000 in
theorem refGroup_in (v : Value) (l : List Lx.Tok) (p : Nat) (w : World) (hl : Rt w v l) (hlen : l.length ≤ 1000000000) (hp : p ≤ l.length) :
    Calls Try.prog 11 #[v, .int .i64 (p : Int)] w fun e w' => e = .returned (.tuple #[.int .i64 (gres p (Mx.group (l.drop p))).1, .int .i64 (gres p (Mx.group (l.drop p))).2]) ∧ Below w.heap.size w w' := by
  obtain ⟨a0, c0, rfl⟩ := hl.shape
  by_cases hlt : p < l.length
  · obtain ⟨b1, o1, rfl, c10, d1⟩ := hl.at hlt
    clear d1
    have hbe : ((p : Int) == (l.length : Int)) = false := by simp; omega
    cases h5 : (l[p].1 != 5)
    · have h5' : l[p].1 = 5 := by simpa [bne] using h5
      have hg : Mx.group (l.drop p) = Mx.close 0 (l.drop p) := by rw [drop_at hlt, Mx.group, if_pos h5']
      rw [hg]
      clear hg
      have HR := Lib.hid h5'
      clear h5'
      go_enter Try.func11, Try.ntmps11
      go_wp2_with fail
      clear h5 c10 hbe
      go_loopw [6, 7] (fun d i wr => ∃ k dd : Nat, p ≤ k ∧ k ≤ l.length ∧ i = .int .i64 k ∧ d = .int .i64 dd ∧ dd ≤ k ∧ (k = p ∨ 0 < dd) ∧ Hid (Mx.close 0 (l.drop p) = (Mx.close dd (l.drop k)).map (· + (k - p))) ∧ wr = w) (fun _ i _ => l.length - (intOf i).toNat)
      case atStart => exact ⟨p, 0, Nat.le_refl _, hp, rfl, rfl, Nat.zero_le _, .inl rfl, by simp [Hid], rfl⟩
      case round =>
        obtain ⟨k, dd, hk1, hk2, rfl, rfl, hdk, hor, HC, rfl⟩ := hrel
        by_cases hlk : k < l.length
        · obtain ⟨b2, o2, hb2, c20, d2⟩ := hl.at hlk
          cases hb2
          clear d2
          cases h5 : (l[k].1 == 5)
          · cases h6 : (l[k].1 == 6)
            · have hs : Mx.step dd l[k] = dd := by
                unfold Mx.step; rw [if_neg (by simpa using h5), if_neg (by simpa using h6)]
              have hd0 : 0 < dd := by
                rcases hor with rfl | h
                · have := HR.out; simp [this] at h5
                · exact h
              have hb0 : ((dd : Int) == 0) = false := by simp; omega
              have HN := Lib.hid (close_next hlk hk1 HC.out hs (by omega))
              clear hl hs
              go_wp2_with fail
              go_roundw
              case rel => exact ⟨k + 1, dd, by omega, by omega, by go_num, rfl, by omega, .inr hd0, HN, trivial⟩
              case measure => simp [intOf]; omega
            · have hs : Mx.step dd l[k] = dd - 1 := by
                unfold Mx.step; rw [if_neg (by simpa using h5), if_pos (by simpa using h6)]
              have hd0 : 0 < dd := by
                rcases hor with rfl | h
                · have := HR.out; simp [this] at h5
                · exact h
              cases hb0 : (((dd : Int) - 1) == 0)
              · have hd1 : dd - 1 ≠ 0 := by intro e; have : (dd : Int) - 1 = 0 := by omega
                                            rw [this] at hb0; simp at hb0
                have HN := Lib.hid (close_next hlk hk1 HC.out hs hd1)
                clear hl hs
                go_wp2_with fail
                go_roundw
                case rel => exact ⟨k + 1, dd - 1, by omega, by omega, by go_num, by go_num, by omega, .inr (by omega), HN, trivial⟩
                case measure => simp [intOf]; omega
              · have hd1 : dd - 1 = 0 := by have : (dd : Int) - 1 = 0 := by simpa using hb0
                                            omega
                have HN := Lib.hid (close_stop hlk HC.out (hs.trans hd1))
                clear hl hs
                go_wp2_with fail
                go_ret2
                exact ⟨ret_two (by rw [HN.out]; simp only [gres]; omega) (by rw [HN.out]; rfl), Below.refl _ _⟩
          · have hs : Mx.step dd l[k] = dd + 1 := by
              unfold Mx.step; rw [if_pos (by simpa using h5)]
            have h6 : (l[k].1 == 6) = false := by have : l[k].1 = 5 := by simpa using h5
                                                  rw [this]; rfl
            have hb0 : (((dd : Int) + 1) == 0) = false := by simp; omega
            have HN := Lib.hid (close_next hlk hk1 HC.out hs (by omega))
            clear hl hs
            go_wp2_with fail
            go_roundw
            case rel => exact ⟨k + 1, dd + 1, by omega, by omega, by go_num, by go_num, by omega, .inr (by omega), HN, trivial⟩
            case measure => simp [intOf]; omega
        · have hkl : k = l.length := by omega
          have h0 := HC.out
          rw [hkl, List.drop_length, Mx.close] at h0
          have HN := Lib.hid h0
          clear h0 hl
          go_wp2_with fail
          go_ret2
          exact ⟨ret_two (by rw [HN.out]; rfl) (by rw [HN.out]; rfl), Below.refl _ _⟩
    · have h5' : ¬ l[p].1 = 5 := by simpa [bne] using h5
      have hg : Mx.group (l.drop p) = none := by rw [drop_at hlt, Mx.group, if_neg h5']
      rw [hg]
      clear hg h5' hl
      go_enter Try.func11, Try.ntmps11
      go_wp2_with fail
      go_ret2
      exact ⟨rfl, Below.refl _ _⟩
  · have he : p = l.length := by omega
    have hg : Mx.group (l.drop p) = none := by rw [he, List.drop_length]; rfl
    rw [hg]
    have hbe : ((p : Int) == (l.length : Int)) = true := by simp; omega
    clear hg hl
    go_enter Try.func11, Try.ntmps11
    go_wp2_with fail
    go_ret2
    exact ⟨rfl, Below.refl _ _⟩

end Go.Proofs.Ytkpdhpbnbpjceaa
