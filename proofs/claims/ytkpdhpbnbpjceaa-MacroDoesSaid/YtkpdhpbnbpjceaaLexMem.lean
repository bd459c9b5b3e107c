
/- Lists of tokens in memory: 'Same', 'One', 'Refs', 'Cut' of the laws, walked. -/
import Derived.Test.YtkpdhpbnbpjceaaProg
import Derived.Test.YtkpdhpbnbpjceaaKit
import Derived.Test.YtkpdhpbnbpjceaaLexPure
import Derived.BigQuiet
import Derived.Deep.QuietTactic
namespace Go.Proofs.Ytkpdhpbnbpjceaa
open Go.RowKit

theorem tyTok : SlTy Try.prog 22 41 2 24 := SlTy.mk' (z := .agg #[.int .i64 0, .string ⟨#[]⟩]) Try.underlying22 (by kernel_rfl) rfl (by decide)
theorem tyRef : SlTy Try.prog 28 80 2 24 := SlTy.mk' (z := .agg #[.int .i64 0, .string ⟨#[]⟩]) Try.underlying28 (by kernel_rfl) rfl (by decide)

theorem run_neq_ref (a b : Lx.Tok) (w : World) : (binOp .neq 80 (.agg #[.int .i64 a.1, .string (S a.2)]) (.agg #[.int .i64 b.1, .string (S b.2)])).run Try.prog w = .ok (.bool (a != b)) w := by
  obtain ⟨a, s⟩ := a
  obtain ⟨b, t⟩ := b
  by_cases h : a = b <;> by_cases h2 : s = t <;> simp [go_sem, h, h2, bne]

theorem eq_of_bne {α : Type} [BEq α] [LawfulBEq α] {a b : α} (h : (a != b) = false) : a = b := by simpa [bne] using h
theorem ne_of_bne {α : Type} [BEq α] [LawfulBEq α] {a b : α} (h : (a != b) = true) : a ≠ b := by simpa [bne] using h

set_option maxHeartbeats 400000 in
/-- 'Same': are they the same tokens? -/
theorem same_any (va vb : Value) (la lb : List Lx.Tok) (w : World) (ha : Rt w va la) (hb : Rt w vb lb) (hla : la.length ≤ 1000000000000) (hlb : lb.length ≤ 1000000000000) :
    Calls Try.prog 20 #[va, vb] w fun e w' => e = .returned (.bool (la == lb)) ∧ Below w.heap.size w w' := by
  have hne := run_neq_ref
  obtain ⟨aa, ca, rfl⟩ := ha.shape
  obtain ⟨ab, cb, rfl⟩ := hb.shape
  by_cases hlen : la.length = lb.length
  · have HL := Lib.hid hlen
    have hb1 : ((la.length : Int) != (lb.length : Int)) = false := by simp [hlen]
    clear hlen
    go_enter Try.func20, Try.ntmps20
    go_wp2
    go_loopw [4, 5] (fun _ i wr => ∃ k : Nat, k ≤ la.length ∧ i = .int .i64 k ∧ Hid (la.take k = lb.take k) ∧ Below w.heap.size w wr) (fun _ i _ => la.length - (intOf i).toNat)
    case atStart => exact ⟨0, Nat.zero_le _, rfl, rfl, Below.refl _ _⟩
    case round =>
      obtain ⟨k, hk, rfl, HE, hbw⟩ := hrel
      by_cases hlt : k < la.length
      · have hlt' : k < lb.length := HL.out ▸ hlt
        have ha' := ha.below' hbw
        have hb' := hb.below' hbw
        obtain ⟨b1, o1, rfl, c10, c11⟩ := ha'.at hlt
        obtain ⟨b2, o2, rfl, c20, c21⟩ := hb'.at hlt'
        clear ha' hb' ha hb
        go_wp2
        go_quiet (fail)
        go_wp2
        · have hx : (la[k] != lb[k]) = true := by assumption
          go_ret
          refine ⟨ret_bool ?_, below_drewN hbw _⟩
          have : la ≠ lb := fun e => ne_of_bne hx (by subst e; rfl)
          simp [this]
        · have hx : (la[k] != lb[k]) = false := by assumption
          go_roundw
          case rel => exact ⟨k + 1, by omega, by go_num, take_succ_eq hlt hlt' HE.out (eq_of_bne hx), below_drewN hbw _⟩
          case measure => simp [intOf]; omega
      · have hkl : k = la.length := by omega
        have heq : la = lb := by
          have := HE.out
          rw [hkl, List.take_length, HL.out, List.take_length] at this
          exact this
        have HQ := Lib.hid heq
        clear heq hkl ha hb
        go_wp2
        go_ret
        exact ⟨ret_bool (by simp [HQ.out]), hbw⟩
  · have hb1 : ((la.length : Int) != (lb.length : Int)) = true := by simp [bne]; omega
    go_enter Try.func20, Try.ntmps20
    go_wp2
    go_ret
    refine ⟨ret_bool ?_, Below.refl _ _⟩
    have : la ≠ lb := fun e => hlen (by rw [e])
    simp [this]

set_option maxHeartbeats 400000 in
/-- 'One': the same token, for the document. -/
theorem one_ref (k : Int) (s : ByteArray) (w : World) :
    Calls Try.prog 36 #[.agg #[.int .i64 k, .string s]] w fun e w' => e = .returned (.agg #[.int .i64 k, .string s]) ∧ Below w.heap.size w w' := by
  go_enter Try.func36, Try.ntmps36
  go_wp2
  exact bodyPost_ret (v := .agg #[.int .i64 k, .string s]) (by simp [results, Try.results36, go_sem]) rfl ⟨rfl, ((Below.refl _ _).alloc (Nat.le_refl _) _).alloc (by simp) _⟩

set_option maxHeartbeats 400000 in
/-- 'Refs': the same tokens, for the document. -/
theorem refs_any (v : Value) (l : List Lx.Tok) (w : World) (hl : Rt w v l) (hlen : l.length ≤ 1000000000) :
    Calls Try.prog 12 #[v] w fun e w' => ∃ v', e = .returned v' ∧ w'.ownsRow w.heap.size 80 2 v' l.length (tcs l) ∧ Below w.heap.size w w' := by
  obtain ⟨a0, c0, rfl⟩ := hl.shape
  go_enter Try.func12, Try.ntmps12
  go_wp2
  go_loopw [3, 4] (fun v i wr => ∃ k : Nat, k ≤ l.length ∧ i = .int .i64 k ∧ wr.ownsRow w.heap.size 80 2 v k (tcs (l.take k)) ∧ Below w.heap.size w wr) (fun _ i _ => l.length - (intOf i).toNat)
  case atStart => exact ⟨0, Nat.zero_le _, rfl, World.ownsRow_made w #[] 0 (Nat.le_refl _) (by decide) rfl, (Below.refl _ _).alloc (Nat.le_refl _) _⟩
  case round =>
    obtain ⟨k, hk, rfl, hown, hbw⟩ := hrel
    have hsz := hbw.size
    by_cases hlt : k < l.length
    · obtain ⟨b1, o1, rfl, c10, c11⟩ := (hl.below' hbw).at hlt
      clear hl
      go_wp2_with (first
        | (go_at_call 36; (with_reducible refine (one_ref _ _ _).mono ?_); rintro e w1 ⟨rfl, hb1⟩; have hown1 := own_below hown (own_under hown) hb1; have hsz1 := hb1.size)
        | (at_builtin; go_loud (refine wp_app tyRef rfl _ _ rfl w.heap.size hown1 rfl rfl (by simp) rfl tc_one (by omega) (by omega) (by omega) ?_); intro v2 w2 hown2 hb2 _))
      go_roundw
      case rel => exact ⟨k + 1, by omega, by go_num, (by rw [take_snoc l k hlt, tcs_snoc]; exact hown2), (hbw.trans (hb1.mono hsz)).trans hb2⟩
      case measure => simp [intOf]; omega
    · obtain rfl : k = l.length := by omega
      rw [List.take_length] at hown
      clear hl
      go_wp2
      go_ret
      exact ⟨_, rfl, hown, hbw⟩

/-- What 'Cut' makes of a token. -/
def cut40 (t : Lx.Tok) : Lx.Tok := (t.1, t.2.take 40)

set_option maxHeartbeats 800000 in
/-- 'Cut': so many tokens, with at most 40 bytes each. -/
theorem cut_any (v : Value) (l : List Lx.Tok) (m : Nat) (w : World) (hl : Rt w v l) (hm : m ≤ 1000000000) (hs : ∀ t ∈ l, t.2.length ≤ 9223372036854775807) :
    Calls Try.prog 9 #[v, .int .i64 (m : Int)] w fun e w' => ∃ v', e = .returned v' ∧ w'.ownsRow w.heap.size 41 2 v' ((l.take m).map cut40).length (tcs ((l.take m).map cut40)) ∧ Below w.heap.size w w' := by
  obtain ⟨a0, c0, rfl⟩ := hl.shape
  go_enter Try.func9, Try.ntmps9
  go_wp2
  go_loopw [5, 6] (fun v i wr => ∃ k : Nat, k ≤ l.length ∧ k ≤ m ∧ i = .int .i64 k ∧ wr.ownsRow w.heap.size 41 2 v k (tcs ((l.take k).map cut40)) ∧ Below w.heap.size w wr) (fun _ i _ => l.length - (intOf i).toNat)
  case atStart => exact ⟨0, Nat.zero_le _, Nat.zero_le _, rfl, World.ownsRow_made w #[] 0 (Nat.le_refl _) (by decide) rfl, (Below.refl _ _).alloc (Nat.le_refl _) _⟩
  case round =>
    obtain ⟨k, hk, hkm, rfl, hown, hbw⟩ := hrel
    have hsz := hbw.size
    by_cases hlt : k < l.length
    · by_cases hlm : k < m
      · obtain ⟨b1, o1, rfl, c10, c11⟩ := (hl.below' hbw).at hlt
        have hs1 := hs _ (List.getElem_mem hlt)
        clear hl hs
        go_wp2_with (first
          | (at_builtin; refine wp_app tyTok rfl _ _ rfl w.heap.size (hown.alloc _) rfl rfl (by simp) rfl tc_one (by omega) (by omega) (by simp; omega) ?_; intro v2 w2 hown2 hb2 _)
          | fail)
        all_goals (
          go_roundw
          case rel => exact ⟨k + 1, by omega, by omega, by go_num, (by rw [take_snoc l k hlt, List.map_append, List.map_cons, List.map_nil, tcs_snoc]; have e := take_min l[k].2 40; simp only [Int.cast_ofNat_Int] at e; simpa [cut40, e] using hown2), (hbw.alloc hsz _).trans hb2⟩
          case measure => simp [intOf]; omega)
      · obtain rfl : k = m := by omega
        clear hl
        go_wp2
        go_ret
        exact ⟨_, rfl, by simpa [Nat.min_eq_left (Nat.le_of_lt hlt)] using hown, hbw⟩
    · obtain rfl : k = l.length := by omega
      rw [List.take_length] at hown
      clear hl
      go_wp2
      go_ret
      exact ⟨_, rfl, by simpa [List.take_of_length_le hkm] using hown, hbw⟩

end Go.Proofs.Ytkpdhpbnbpjceaa
