
/- 'names': the map of names by kinds, whatever the order of the commands. No condition. -/
import Derived.Test.YtcdclkgfgieppaaItMap
namespace Go.Proofs.Ytcdclkgfgieppaa
open Go.RowKit Go.Maps Go.WideMaps

/-- What the names' map holds. -/
def NamesOk (D : DataW Unit) : Prop := ∀ z : Int, has D (.int .i64 z) = (decide (4 ≤ z) && decide (z ≤ 16)) ∧ ∀ zd, D.atKey (.int .i64 z) zd = if 4 ≤ z ∧ z ≤ 16 then dN (It.nameOf z.toNat) (It.grp z.toNat) else zd
/-- What it holds while some commands are to come. -/
def NamesIn (D : DataW Unit) (left : Lit → Bool) : Prop := IsMap D ∧ ∀ z : Int, has D (.int .i64 z) = (decide (4 ≤ z) && decide (z ≤ 16) && !left (.string (It.nameOf z.toNat))) ∧
  ∀ zd, D.atKey (.int .i64 z) zd = if 4 ≤ z ∧ z ≤ 16 ∧ left (.string (It.nameOf z.toNat)) = false then dN (It.nameOf z.toNat) (It.grp z.toNat) else zd

theorem names_start : NamesIn (.map []) (has comD) := by
  refine ⟨⟨_, rfl⟩, fun z => ?_⟩
  by_cases h : 4 ≤ z ∧ z ≤ 16
  · have hh := (com_hit z.toNat (by omega) (by omega)).1
    rw [hh]
    exact ⟨by simp [has], fun zd => by rw [if_neg (by simp)]; rfl⟩
  · refine ⟨?_, fun zd => by rw [if_neg (fun h2 => h ⟨h2.1, h2.2.1⟩)]; rfl⟩
    have : (decide (4 ≤ z) && decide (z ≤ 16)) = false := by simp; omega
    rw [this]; rfl
theorem names_end {D : DataW Unit} {left : Lit → Bool} (h : NamesIn D left) (hl : ∀ k, left k = false) : NamesOk D := fun z => by
  obtain ⟨h1, h2⟩ := h.2 z
  refine ⟨by rw [h1, hl]; simp, fun zd => ?_⟩
  rw [h2, hl]
  simp
theorem sameKey_str (a b : List UInt8) : (Lit.string a).sameKey (.string b) = (a == b) := by
  by_cases h : a = b
  · subst h
    have e : (Lit.string a).sameKey (.string a) = true := by
      have hp := has_put_same (H := Unit) (D := .map []) (k := .string a) ⟨_, rfl⟩ trivial (.agg [])
      simpa [has, DataW.put, DataW.insert] using hp
    rw [e]; simp
  · rw [sameKey_ne (by intro e; injection e with e; exact h e)]; simp [h]
theorem names_step {D : DataW Unit} {left : Lit → Bool} {s : List UInt8} (h : NamesIn D left) (hk : It.kindOf s ≠ 0) :
    NamesIn (D.put (.int .i64 (It.kindOf s)) (dN s (It.grp (It.kindOf s)))) (fun z => left z && !z.sameKey (.string s)) := by
  have hr := It.kindOf_le s
  have hn := It.nameOf_kind s hk
  refine ⟨h.1.put _ _, fun z => ?_⟩
  by_cases he : z = (It.kindOf s : Int)
  · subst he
    have e : (It.kindOf s : Int).toNat = It.kindOf s := by omega
    have hs : (Lit.string s).sameKey (.string s) = true := by rw [sameKey_str]; simp
    rw [e, hn]
    simp only [hs, Bool.not_true, Bool.and_false, Bool.not_false, Bool.and_true]
    refine ⟨?_, fun zd => ?_⟩
    · rw [has_put_same h.1 (show WideAt.IsKeyLit (.int .i64 (It.kindOf s)) from trivial)]
      simp; omega
    · rw [atKey_put_same h.1 (show WideAt.IsKeyLit (.int .i64 (It.kindOf s)) from trivial), if_pos ⟨by omega, by omega, trivial⟩]
  · have hne : (Lit.int .i64 z) ≠ .int .i64 (It.kindOf s) := fun e => he (by injection e)
    obtain ⟨h1, h2⟩ := h.2 z
    by_cases hz : 4 ≤ z ∧ z ≤ 16
    · have hnn : It.nameOf z.toNat ≠ s := fun e => he (by
        have := It.kindOf_name z.toNat (by omega) (by omega)
        rw [e] at this
        omega)
      have hs : (Lit.string (It.nameOf z.toNat)).sameKey (.string s) = false := by rw [sameKey_str]; simp [hnn]
      simp only [hs, Bool.not_false, Bool.and_true]
      exact ⟨by rw [has_put_other hne, h1], fun zd => by rw [atKey_put_other hne, h2]⟩
    · have hb : (decide (4 ≤ z) && decide (z ≤ 16)) = false := by simp; omega
      refine ⟨?_, fun zd => ?_⟩
      · rw [has_put_other hne, h1, hb]; rfl
      · rw [atKey_put_other hne, h2, if_neg (fun h => hz ⟨h.1, h.2.1⟩), if_neg (fun h => hz ⟨h.1, h.2.1⟩)]

theorem wf_small (k : Nat) (h : k ≤ 100) : (Lit.int .i64 (k : Int)).wf = true := WalkArith.wf_i64 (by omega)

set_option maxRecDepth 20000 in
set_option maxHeartbeats 4000000 in
/-- 'names'. -/
theorem names_any (w : World) :
    Calls Try.prog 35 #[] w fun e w' => ∃ b D, e = .returned (.map (some b)) ∧ w'.ownsMap Try.prog 3 readN b 13 D ∧ NamesOk D ∧ w.heap.size ≤ b ∧ Below w.heap.size w w' := by
  have hmm := @run_makeMap Try.prog
  have e1 : (w.alloc (.map #[] 0)).heap.size = w.heap.size + 1 := by simp
  have bw : Below w.heap.size w (w.alloc (.map #[] 0)) := (Below.refl _ _).alloc (Nat.le_refl _) _
  have hmade := World.ownsMap_made w Try.prog 3 readN
  go_enter Try.func35, Try.ntmps35
  go_wp2_with fail
  (with_reducible refine (commands_any _).mono ?_); rintro e w1 ⟨rfl, hown, b1⟩
  rw [e1] at hown b1
  have hs1 : w.heap.size + 1 ≤ w1.heap.size := by have := b1.size; omega
  have hmade1 : w1.ownsMap Try.prog 3 readN w.heap.size 0 (.map []) := by
    obtain ⟨es, clock, h1, h2⟩ := hmade
    exact ⟨es, clock, (b1.block _ (by omega)).trans h1, h2⟩
  have bw1 := bw.trans (b1.mono (by omega))
  clear hmade bw b1
  go_wp2_with (first
    | (at_range; refine wpList_range_own _ rfl _ 55 rfl 9 65 lawS Try.underlying55 _ (w.heap.size + 1) 13 _ rfl hown ?_; intro w2 hrg hg2 hs2)
    | fail)
  go_frame
  go_loopw [2] (fun _ wr => ∃ (left : Lit → Bool) (cnt m : Nat) (D : DataW Unit), wr.ranges Try.prog 9 readC (w.heap.size + 1) w1.heap.size 13 comD left cnt ∧ m + cnt ≤ 13 ∧ wr.ownsMap Try.prog 3 readN w.heap.size m D ∧ NamesIn D left ∧ Below w.heap.size w wr)
    (fun _ wr => wr.rangeLeft (w.heap.size + 1) w1.heap.size)
  case atStart =>
    exact ⟨_, _, 0, .map [], hrg, by decide, hmade1.kept hg2 (by simp), names_start, bw1.grown hg2 bw1.size (fun j hj => by cases hj)⟩
  case round =>
    obtain ⟨left, cnt, m, D, hrg, hmc, hout, hA, hnx⟩ := hrel
    go_wp2_with (first
      | (at_next; refine wpList_next_ranges _ rfl _ rfl 9 lawS readC (fun s : List UInt8 => Value.string (S s)) (fun c : Int × Int => .agg #[.int .i64 c.1, .int .i64 c.2]) (fun key kl hk => by obtain ⟨s, rfl, _⟩ := string_of_keyOf Try.underlying9 hk; exact ⟨s.data.toList, rfl⟩) (fun v y hv => by obtain ⟨a, b, rfl, _⟩ := readC_inv hv; exact ⟨(a, b), rfl⟩) (w.heap.size + 1) w1.heap.size 13 _ _ _ rfl hrg ?_ ?_)
      | fail)
    · intro hc0 hl0
      go_wp2_with fail
      go_ret
      exact ⟨_, D, rfl, hout.mono (by omega), names_end hA hl0, Nat.le_refl _, hnx⟩
    · intro x c1 c2 kl y yp w3 cnt1 hkey hlx hry hat hrg1 hlt hg1 hs3 hen
      have hkl : kl = .string x := by
        obtain ⟨s, e1, e2, _⟩ := string_of_keyOf Try.underlying9 hkey
        injection e1 with e1
        rw [e2, ← e1]; rfl
      subst hkl
      have hy : y = dC c1 c2 := by
        obtain ⟨a, b, e1, e2⟩ := readC_inv hry
        simp at e1
        injection e2 with e2
        rw [e2, e1.1, e1.2]
      subst hy
      have hcc : It.kindOf x ≠ 0 ∧ c1 = It.kindOf x ∧ c2 = It.grp (It.kindOf x) := by
        have h1 := hat .nil
        rw [(com_at x).2] at h1
        by_cases h0 : It.kindOf x = 0
        · rw [if_pos h0] at h1; cases h1
        · rw [if_neg h0] at h1
          simp only [dC, DataW.agg.injEq, List.cons.injEq, DataW.lit.injEq, Lit.int.injEq, true_and, and_true] at h1
          exact ⟨h0, h1.1.symm, h1.2.symm⟩
      obtain ⟨hk0, rfl, rfl⟩ := hcc
      have hA2 := names_step hA hk0
      have hr := It.kindOf_le x
      have hwf := wf_small (It.kindOf x) (by omega)
      have hout1 := hout.kept hg1 (by simp; omega)
      clear hat hkey hlx hA hry hk0
      generalize It.grp (It.kindOf x) = g at *
      generalize It.kindOf x = k at *
      go_wp2_with (first
        | (at_mapUpdate; refine wpList_mapUpdate_own _ rfl _ _ _ 79 rfl 3 82 lawI Try.underlying79 readN w.heap.size _ _ rfl (hout1.alloc _) (by unfold maxLen; omega) _ _ _ rfl rfl (keyOf_int_mk Try.underlying3 hwf) _ [] (readN_mk _ _) ?_; intro w4 hout2 hg2; go_frame)
        | fail)
      have hrg2 := (hrg1.alloc _).kept hg2 (fun e => by have := Option.some.inj e; omega) (fun e => by have := Option.some.inj e; omega)
      go_roundw
      case rel =>
        exact ⟨_, cnt1, _, _, hrg2, by omega, hout2, hA2,
          ((hnx.grown hg1 hnx.size (fun j hj => by cases hj; omega)).alloc (by have := hnx.size; omega) _).grown hg2 (by have := hnx.size; simp; omega) (fun j hj => by cases hj; exact Nat.le_refl _)⟩
      case measure => rw [hrg2.left_eq, hrg.left_eq]; exact hlt

end Go.Proofs.Ytcdclkgfgieppaa
