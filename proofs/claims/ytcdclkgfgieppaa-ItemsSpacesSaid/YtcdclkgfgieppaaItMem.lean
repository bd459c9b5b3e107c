
/- Lists of items and of notes in memory: 'Same', 'Notes', 'Refs', 'Cut' of the laws, walked; the reference's names. No condition. -/
import Derived.Test.YtcdclkgfgieppaaItPure
import Derived.Test.YtcdclkgfgieppaaLexMem
import Derived.Test.YtcdclkgfgieppaaApp
namespace Go.Proofs.Ytcdclkgfgieppaa
open Go.RowKit

theorem tyIt : SlTy Try.prog 23 49 2 24 := SlTy.mk' (z := .agg #[.int .i64 0, .string ⟨#[]⟩]) Try.underlying23 (by kernel_rfl) rfl (by decide)
theorem tyItR : SlTy Try.prog 29 72 2 24 := SlTy.mk' (z := .agg #[.int .i64 0, .string ⟨#[]⟩]) Try.underlying29 (by kernel_rfl) rfl (by decide)
theorem tyNote : SlTy Try.prog 26 60 2 24 := SlTy.mk' (z := .agg #[.int .i64 0, .string ⟨#[]⟩]) Try.underlying26 (by kernel_rfl) rfl (by decide)

theorem run_neq_it (a b : Lx.Tok) (w : World) : (binOp .neq 72 (.agg #[.int .i64 a.1, .string (S a.2)]) (.agg #[.int .i64 b.1, .string (S b.2)])).run Try.prog w = .ok (.bool (a != b)) w := by
  obtain ⟨a, s⟩ := a
  obtain ⟨b, t⟩ := b
  by_cases h : a = b <;> by_cases h2 : s = t <;> simp [go_sem, h, h2, bne]

theorem run_neq_note (a b : Lx.Tok) (w : World) : (binOp .neq 60 (.agg #[.int .i64 a.1, .string (S a.2)]) (.agg #[.int .i64 b.1, .string (S b.2)])).run Try.prog w = .ok (.bool (a != b)) w := by
  obtain ⟨a, s⟩ := a
  obtain ⟨b, t⟩ := b
  by_cases h : a = b <;> by_cases h2 : s = t <;> simp [go_sem, h, h2, bne]

set_option maxHeartbeats 400000 in
/-- 'Same': are they the same items? -/
theorem sameIt_any (va vb : Value) (la lb : List Lx.Tok) (w : World) (ha : Rt w va la) (hb : Rt w vb lb) (hla : la.length ≤ 1000000000000) (hlb : lb.length ≤ 1000000000000) :
    Calls Try.prog 13 #[va, vb] w fun e w' => e = .returned (.bool (la == lb)) ∧ Below w.heap.size w w' := by
  have hne := run_neq_it
  obtain ⟨aa, ca, rfl⟩ := ha.shape
  obtain ⟨ab, cb, rfl⟩ := hb.shape
  by_cases hlen : la.length = lb.length
  · have HL := Lib.hid hlen
    have hb1 : ((la.length : Int) != (lb.length : Int)) = false := by simp [hlen]
    clear hlen
    go_enter Try.func13, Try.ntmps13
    go_wp2
    go_loopw [4, 5] (fun _ i wr => ∃ k : Nat, k ≤ la.length ∧ i = .int .i64 k ∧ Hid (la.take k = lb.take k) ∧ Below w.heap.size w wr) (fun _ i _ => la.length - (intOf i).toNat)
    case atStart => exact ⟨0, Nat.zero_le _, rfl, rfl, Below.refl _ _⟩
    case round =>
      obtain ⟨k, hk, rfl, HE, hbw⟩ := hrel
      by_cases hlt : k < la.length
      · have hlt' : k < lb.length := HL.out ▸ hlt
        have ha' := ha.below' hbw
        have hb' := hb.below' hbw
        obtain ⟨b1, o1, rfl, c10, c11⟩ := ha'.at hlt
        obtain ⟨b2, o2, rfl, c20, c21⟩ := hb'.at hlt'
        clear ha' hb' ha hb
        go_wp2
        go_quiet (fail)
        go_wp2
        · have hx : (la[k] != lb[k]) = true := by assumption
          go_ret
          refine ⟨ret_bool ?_, below_drewN hbw _⟩
          have : la ≠ lb := fun e => ne_of_bne hx (by subst e; rfl)
          simp [this]
        · have hx : (la[k] != lb[k]) = false := by assumption
          go_roundw
          case rel => exact ⟨k + 1, by omega, by go_num, take_succ_eq hlt hlt' HE.out (eq_of_bne hx), below_drewN hbw _⟩
          case measure => simp [intOf]; omega
      · have hkl : k = la.length := by omega
        have heq : la = lb := by
          have := HE.out
          rw [hkl, List.take_length, HL.out, List.take_length] at this
          exact this
        have HQ := Lib.hid heq
        clear heq hkl ha hb
        go_wp2
        go_ret
        exact ⟨ret_bool (by simp [HQ.out]), hbw⟩
  · have hb1 : ((la.length : Int) != (lb.length : Int)) = true := by simp [bne]; omega
    go_enter Try.func13, Try.ntmps13
    go_wp2
    go_ret
    refine ⟨ret_bool ?_, Below.refl _ _⟩
    have : la ≠ lb := fun e => hlen (by rw [e])
    simp [this]

set_option maxHeartbeats 400000 in
/-- 'Notes': are they the same notes? -/
theorem notes_any (va vb : Value) (la lb : List Lx.Tok) (w : World) (ha : Rt w va la) (hb : Rt w vb lb) (hla : la.length ≤ 1000000000000) (hlb : lb.length ≤ 1000000000000) :
    Calls Try.prog 15 #[va, vb] w fun e w' => e = .returned (.bool (la == lb)) ∧ Below w.heap.size w w' := by
  have hne := run_neq_note
  obtain ⟨aa, ca, rfl⟩ := ha.shape
  obtain ⟨ab, cb, rfl⟩ := hb.shape
  by_cases hlen : la.length = lb.length
  · have HL := Lib.hid hlen
    have hb1 : ((la.length : Int) != (lb.length : Int)) = false := by simp [hlen]
    clear hlen
    go_enter Try.func15, Try.ntmps15
    go_wp2
    go_loopw [4, 5] (fun _ i wr => ∃ k : Nat, k ≤ la.length ∧ i = .int .i64 k ∧ Hid (la.take k = lb.take k) ∧ Below w.heap.size w wr) (fun _ i _ => la.length - (intOf i).toNat)
    case atStart => exact ⟨0, Nat.zero_le _, rfl, rfl, Below.refl _ _⟩
    case round =>
      obtain ⟨k, hk, rfl, HE, hbw⟩ := hrel
      by_cases hlt : k < la.length
      · have hlt' : k < lb.length := HL.out ▸ hlt
        have ha' := ha.below' hbw
        have hb' := hb.below' hbw
        obtain ⟨b1, o1, rfl, c10, c11⟩ := ha'.at hlt
        obtain ⟨b2, o2, rfl, c20, c21⟩ := hb'.at hlt'
        clear ha' hb' ha hb
        go_wp2
        go_quiet (fail)
        go_wp2
        · have hx : (la[k] != lb[k]) = true := by assumption
          go_ret
          refine ⟨ret_bool ?_, below_drewN hbw _⟩
          have : la ≠ lb := fun e => ne_of_bne hx (by subst e; rfl)
          simp [this]
        · have hx : (la[k] != lb[k]) = false := by assumption
          go_roundw
          case rel => exact ⟨k + 1, by omega, by go_num, take_succ_eq hlt hlt' HE.out (eq_of_bne hx), below_drewN hbw _⟩
          case measure => simp [intOf]; omega
      · have hkl : k = la.length := by omega
        have heq : la = lb := by
          have := HE.out
          rw [hkl, List.take_length, HL.out, List.take_length] at this
          exact this
        have HQ := Lib.hid heq
        clear heq hkl ha hb
        go_wp2
        go_ret
        exact ⟨ret_bool (by simp [HQ.out]), hbw⟩
  · have hb1 : ((la.length : Int) != (lb.length : Int)) = true := by simp [bne]; omega
    go_enter Try.func15, Try.ntmps15
    go_wp2
    go_ret
    refine ⟨ret_bool ?_, Below.refl _ _⟩
    have : la ≠ lb := fun e => hlen (by rw [e])
    simp [this]

set_option maxRecDepth 20000 in
set_option maxHeartbeats 800000 in
/-- 'Refs': the same items, for the document. -/
theorem refsIt_any (v : Value) (l : List Lx.Tok) (w : World) (hl : Rt w v l) (hlen : l.length ≤ 1000000000) :
    Calls Try.prog 14 #[v] w fun e w' => ∃ v', e = .returned v' ∧ w'.ownsRow w.heap.size 72 2 v' l.length (tcs l) ∧ Below w.heap.size w w' := by
  obtain ⟨a0, c0, rfl⟩ := hl.shape
  go_enter Try.func14, Try.ntmps14
  go_wp2
  go_loopw [3, 4] (fun v i wr => ∃ k : Nat, k ≤ l.length ∧ i = .int .i64 k ∧ wr.ownsRow w.heap.size 72 2 v k (tcs (l.take k)) ∧ Below w.heap.size w wr) (fun _ i _ => l.length - (intOf i).toNat)
  case atStart => exact ⟨0, Nat.zero_le _, rfl, World.ownsRow_made w #[] 0 (Nat.le_refl _) (by decide) rfl, (Below.refl _ _).alloc (Nat.le_refl _) _⟩
  case round =>
    obtain ⟨k, hk, rfl, hown, hbw⟩ := hrel
    have hsz := hbw.size
    by_cases hlt : k < l.length
    · obtain ⟨b1, o1, rfl, c10, c11⟩ := (hl.below' hbw).at hlt
      clear hl
      go_wp2_with fail
      have hownd : wr.drew.ownsRow w.heap.size 72 2 u3 k (tcs (l.take k)) := hown
      have hbd : Below w.heap.size w wr.drew := below_drewN hbw 1
      go_region_law (refine step_app tyItR rfl _ _ rfl w.heap.size (hownd.alloc _) rfl rfl (heap_alloc_new _ _) rfl tc_one (by omega) (by omega) (by simp; omega) ?_; intro v2 w2 hown2 hb2 _)
      all_goals (
        go_wp2_with fail
        go_roundw
        case rel => exact ⟨k + 1, by omega, by go_num, (by rw [take_snoc l k hlt, tcs_snoc]; exact hown2), (hbd.alloc hsz _).trans hb2⟩
        case measure => simp [intOf]; omega)
    · obtain rfl : k = l.length := by omega
      rw [List.take_length] at hown
      clear hl
      go_wp2
      go_ret
      exact ⟨_, rfl, hown, hbw⟩

/-- What 'Cut' makes of an item. -/
def cut80 (t : Lx.Tok) : Lx.Tok := (t.1, t.2.take 80)

set_option maxHeartbeats 800000 in
/-- 'Cut': so many items, with at most 80 bytes each. -/
theorem cutIt_any (v : Value) (l : List Lx.Tok) (m : Nat) (w : World) (hl : Rt w v l) (hm : m ≤ 1000000000) (hs : ∀ t ∈ l, t.2.length ≤ 9223372036854775807) :
    Calls Try.prog 9 #[v, .int .i64 (m : Int)] w fun e w' => ∃ v', e = .returned v' ∧ w'.ownsRow w.heap.size 49 2 v' ((l.take m).map cut80).length (tcs ((l.take m).map cut80)) ∧ Below w.heap.size w w' := by
  obtain ⟨a0, c0, rfl⟩ := hl.shape
  go_enter Try.func9, Try.ntmps9
  go_wp2
  go_loopw [5, 6] (fun v i wr => ∃ k : Nat, k ≤ l.length ∧ k ≤ m ∧ i = .int .i64 k ∧ wr.ownsRow w.heap.size 49 2 v k (tcs ((l.take k).map cut80)) ∧ Below w.heap.size w wr) (fun _ i _ => l.length - (intOf i).toNat)
  case atStart => exact ⟨0, Nat.zero_le _, Nat.zero_le _, rfl, World.ownsRow_made w #[] 0 (Nat.le_refl _) (by decide) rfl, (Below.refl _ _).alloc (Nat.le_refl _) _⟩
  case round =>
    obtain ⟨k, hk, hkm, rfl, hown, hbw⟩ := hrel
    have hsz := hbw.size
    by_cases hlt : k < l.length
    · by_cases hlm : k < m
      · obtain ⟨b1, o1, rfl, c10, c11⟩ := (hl.below' hbw).at hlt
        have hs1 := hs _ (List.getElem_mem hlt)
        clear hl hs
        go_wp2_with (first
          | (at_builtin; refine wp_app tyIt rfl _ _ rfl w.heap.size (hown.alloc _) rfl rfl (by simp) rfl tc_one (by omega) (by omega) (by simp; omega) ?_; intro v2 w2 hown2 hb2 _)
          | fail)
        all_goals (
          go_roundw
          case rel => exact ⟨k + 1, by omega, by omega, by go_num, (by rw [take_snoc l k hlt, List.map_append, List.map_cons, List.map_nil, tcs_snoc]; have e := take_min l[k].2 80; simp only [Int.cast_ofNat_Int] at e; simpa [cut80, e] using hown2), (hbw.alloc hsz _).trans hb2⟩
          case measure => simp [intOf]; omega)
      · obtain rfl : k = m := by omega
        clear hl
        go_wp2
        go_ret
        exact ⟨_, rfl, by simpa [Nat.min_eq_left (Nat.le_of_lt hlt)] using hown, hbw⟩
    · obtain rfl : k = l.length := by omega
      rw [List.take_length] at hown
      clear hl
      go_wp2
      go_ret
      exact ⟨_, rfl, by simpa [List.take_of_length_le hkm] using hown, hbw⟩

end Go.Proofs.Ytcdclkgfgieppaa
