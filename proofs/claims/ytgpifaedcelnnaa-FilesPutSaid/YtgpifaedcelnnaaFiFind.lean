
/- Where a file is; the library's Clone of files. No condition. -/
import Derived.Test.YtgpifaedcelnnaaFiName
namespace Go.Proofs.Ytgpifaedcelnnaa
open Go.RowKit

set_option maxHeartbeats 1000000 in
/-- 'slices.Clone' of files. -/
theorem clone_any (v : Value) (l : List Fl) (w : World) (hl : Rf w v l) (hlen : l.length ≤ 1000000000) :
    Calls Try.prog 32 #[v] w fun e w' => ∃ v', e = .returned v' ∧ w'.ownsRow w.heap.size 25 2 v' l.length (fcs l) ∧ Below w.heap.size w w' := by
  obtain ⟨a0, c0, rfl⟩ := hl.shape
  have q22 : ∀ (w : World) (a : Option Addr) (n c n' c' : Nat), (binOp .eql 22 (.slice a n c) (.slice none n' c')).run Try.prog w = .ok (.bool a.isNone) w := fun w a n c n' c' => Lib.run_eql_slice_nil w _ _ a n c n' c' Try.underlying22
  cases a0 with
  | none =>
    have h0 : l = [] := by
      rcases hl.2 with ⟨_, h0⟩ | ⟨b, o, cap, hv, _⟩
      · exact List.eq_nil_of_length_eq_zero h0
      · cases hv
    subst h0
    clear hl
    go_enter Try.func32, Try.ntmps32
    go_wp2_with fail
    go_ret
    exact ⟨_, rfl, World.ownsRow_nil _ _ _ _, Below.refl _ _⟩
  | some a0 =>
    have A := Lib.hid hl
    clear hl
    go_enter Try.func32, Try.ntmps32
    go_wp2_with (at_builtin; refine wp_app_all tyF rfl _ _ rfl w.heap.size (World.ownsRow_made w #[] 0 (Nat.le_refl _) (Nat.zero_le _) (by simp)) (Rf.below' A.out ((Below.refl _ _).alloc (Nat.le_refl _) _)) rfl rfl fcs_one (by omega) (by omega) (by simp) ?_; intro v2 w2 hown2 hb2 hg2)
    go_ret
    exact ⟨_, rfl, by simpa using hown2, ((Below.refl _ w).alloc (Nat.le_refl _) _).trans hb2⟩

set_option maxHeartbeats 1600000 in
theorem cmpf_any (n tx t : List UInt8) (w : World) :
    Calls Try.prog 40 #[.agg #[.string (S n), .string (S tx)], .string (S t)] w fun e w' => e = .returned (.int .i64 (Lib.compareBytes n t)) ∧ Below w.heap.size w w' := by
  go_enter Try.func40, Try.ntmps40
  go_wp2_with fail
  (with_reducible refine (Try.strings_Compare (S n) (S t) _).mono ?_); rintro e w2 ⟨rfl, rfl⟩
  rw [S_dataList, S_dataList]
  go_wp2_with fail
  go_ret
  exact ⟨rfl, (Below.refl _ _).alloc (Nat.le_refl _) _⟩

set_option maxRecDepth 20000 in
set_option maxHeartbeats 1600000 in
/-- 'slices.BinarySearchFunc' of files, by their names. -/
theorem bin_any (v : Value) (ps : List Fl) (t : List UInt8) (w : World) (hl : Rf w v ps) (hlen : ps.length ≤ 1000000) (hs : Sorted (Fi.names ps)) :
    Calls Try.prog 39 #[v, .string (S t), .func (.func 40) #[] #[]] w fun e w' => e = .returned (.tuple #[.int .i64 (lb (Fi.names ps) t : Nat), .bool ((Fi.names ps)[lb (Fi.names ps) t]? == some t)]) ∧ Below w.heap.size w w' := by
  obtain ⟨a0, c0, rfl⟩ := hl.shape
  have A := Lib.hid hl
  have SO := Lib.hid hs
  clear hl hs
  obtain ⟨ns, hns⟩ : ∃ ns, ns = Fi.names ps := ⟨_, rfl⟩
  rw [← hns] at SO ⊢
  have hnl : ns.length = ps.length := by rw [hns]; simp [Fi.names]
  have hnat : ∀ x (h : x < ps.length), ns[x]? = some ps[x].1 := by intro x h; subst hns; simp [Fi.names, h]
  have HN := Lib.hid hns
  clear hns
  have HNL := Lib.hid hnl
  go_enter Try.func39, Try.ntmps39
  go_wp2_with fail
  go_loopw [9, 10] (fun vi vj wr => ∃ i j : Nat, vi = .int .i64 i ∧ vj = .int .i64 j ∧ i ≤ j ∧ j ≤ ps.length ∧ Hid (∀ x (h : x < ns.length), x < i → Lib.compareBytes ns[x] t < 0) ∧ Hid (∀ x (h : x < ns.length), j ≤ x → 0 ≤ Lib.compareBytes ns[x] t) ∧ Below w.heap.size w wr) (fun vi vj _ => (intOf vj).toNat - (intOf vi).toNat)
  case atStart => exact ⟨0, ps.length, rfl, rfl, Nat.zero_le _, Nat.le_refl _, Lib.hid (by intro x _ h; omega), Lib.hid (by intro x h h2; have := HNL.out; omega), Below.refl _ _⟩
  case round =>
    obtain ⟨i, j, rfl, rfl, hij, hj, H1, H2, hbw⟩ := hrel
    have hsz := hbw.size
    by_cases hlt : i < j
    · obtain ⟨h, hh⟩ : ∃ h, h = (i + j) / 2 := ⟨_, rfl⟩
      have hhl : h < ps.length := by omega
      have hhi : i ≤ h := by omega
      have hhj : h < j := by omega
      obtain ⟨b1, o1, rfl, c1, c2⟩ := Rf.at (A.out.below' hbw) hhl
      have hq : ((i : Int) + (j : Int)) / 2 = (h : Int) := by omega
      have hnh := hnat h hhl
      have hnh2 : ns[h]'(by rw [HNL.out]; exact hhl) = ps[h].1 := by
        have := List.getElem?_eq_some_iff.1 hnh
        exact this.2
      obtain ⟨⟨nm, tx⟩, hp⟩ : ∃ x, x = ps[h] := ⟨_, rfl⟩
      rw [← hp] at c1 c2 hnh2
      have hnh2 : ns[h]'(by rw [HNL.out]; exact hhl) = nm := hnh2
      clear hh hp hnh
      rcases (by omega : Lib.compareBytes nm t < 0 ∨ 0 ≤ Lib.compareBytes nm t) with hc | hc
      · have HX := Lib.hid (show ∀ x (hx : x < ns.length), x < h + 1 → Lib.compareBytes ns[x] t < 0 by
          intro x hx hxh
          by_cases e : x = h
          · subst e; rw [hnh2]; exact hc
          · have h3 : Lib.compareBytes ns[x] ns[h] < 0 := List.pairwise_iff_getElem.1 SO.out x h hx (by omega) (by omega)
            rw [hnh2] at h3
            exact cb_trans h3 hc)
        have HC := Lib.hid hc
        obtain ⟨z, hz⟩ : ∃ z, z = Lib.compareBytes nm t := ⟨_, rfl⟩
        rw [← hz] at hc
        have HZ := Lib.hid hz
        clear hz hnh2 hnat
        go_wp2_with fail
        (with_reducible refine (cmpf_any nm tx t wr).mono ?_); rintro e w2 ⟨rfl, b2⟩
        rw [← HZ.out]
        go_wp2_with fail
        go_roundw
        case rel => exact ⟨h + 1, j, by go_num, rfl, by omega, hj, HX, H2, hbw.trans (b2.mono hsz)⟩
        case measure => simp [intOf]; omega
      · have HX := Lib.hid (show ∀ x (hx : x < ns.length), h ≤ x → 0 ≤ Lib.compareBytes ns[x] t by
          intro x hx hxh
          by_cases e : x = h
          · subst e; rw [hnh2]; exact hc
          · have h3 : Lib.compareBytes ns[h] ns[x] < 0 := List.pairwise_iff_getElem.1 SO.out h x (by omega) hx (by omega)
            rw [hnh2] at h3
            rcases (by omega : 0 ≤ Lib.compareBytes ns[x] t ∨ Lib.compareBytes ns[x] t < 0) with h4 | h4
            · exact h4
            · have := cb_trans h3 h4; omega)
        obtain ⟨z, hz⟩ : ∃ z, z = Lib.compareBytes nm t := ⟨_, rfl⟩
        rw [← hz] at hc
        have HZ := Lib.hid hz
        clear hz hnh2 hnat
        go_wp2_with fail
        (with_reducible refine (cmpf_any nm tx t wr).mono ?_); rintro e w2 ⟨rfl, b2⟩
        rw [← HZ.out]
        go_wp2_with fail
        go_roundw
        case rel => exact ⟨i, h, rfl, rfl, hhi, by omega, H1, HX, hbw.trans (b2.mono hsz)⟩
        case measure => simp [intOf]; omega
    · obtain rfl : i = j := by omega
      have HL := Lib.hid (lb_eq (ns := ns) (t := t) (i := i) (by rw [HNL.out]; exact hj) H1.out (fun hi => by have := H2.out i hi (Nat.le_refl _); omega))
      by_cases hin : i < ps.length
      · obtain ⟨b1, o1, rfl, c1, c2⟩ := Rf.at (A.out.below' hbw) hin
        have hnh := hnat i hin
        obtain ⟨⟨nm, tx⟩, hp⟩ : ∃ x, x = ps[i] := ⟨_, rfl⟩
        rw [← hp] at c1 c2 hnh
        obtain ⟨z, hz⟩ : ∃ z, z = Lib.compareBytes nm t := ⟨_, rfl⟩
        have HR := Lib.hid (show (ns[lb ns t]? == some t) = (z == 0) by
          rw [HL.out, hnh, hz]
          by_cases e : nm = t
          · subst e; rw [cb_self]; simp
          · have : ¬ Lib.compareBytes nm t = 0 := fun h => e (cb_eq h)
            have h1 : (nm == t) = false := by simpa using e
            have h2 : (Lib.compareBytes nm t == 0) = false := by simpa using this
            rw [h2]; exact h1)
        have HZ := Lib.hid hz
        clear hz hnh hp hnat
        have hiz : (i : Int) < (ps.length : Int) := by omega
        go_wp2_with fail
        (with_reducible refine (cmpf_any nm tx t wr).mono ?_); rintro e w2 ⟨rfl, b2⟩
        rw [← HZ.out]
        go_wp2_with fail
        go_ret2
        exact ⟨by rw [HR.out, HL.out]; rfl, hbw.trans (b2.mono hsz)⟩
      · have HR := Lib.hid (show (ns[lb ns t]? == some t) = false by
          rw [HL.out, List.getElem?_eq_none (by rw [HNL.out]; omega)]; rfl)
        have hiz : decide ((i : Int) < (ps.length : Int)) = false := by simp; omega
        clear hnat
        go_wp2_with fail
        go_ret2
        exact ⟨by rw [HR.out, HL.out]; rfl, hbw⟩

set_option maxHeartbeats 1600000 in
/-- 'place': where a file is, or would be. -/
theorem place_any (v : Value) (ps : List Fl) (t : List UInt8) (w : World) (hl : Rf w v ps) (hlen : ps.length ≤ 1000000) (hs : Sorted (Fi.names ps)) :
    Calls Try.prog 30 #[v, .string (S t)] w fun e w' => e = .returned (.tuple #[.int .i64 (lb (Fi.names ps) t : Nat), .bool ((Fi.names ps)[lb (Fi.names ps) t]? == some t)]) ∧ Below w.heap.size w w' := by
  have HB := Lib.hid (bin_any v ps t w hl hlen hs)
  obtain ⟨a0, c0, rfl⟩ := hl.shape
  obtain ⟨r, hr⟩ : ∃ r, r = lb (Fi.names ps) t := ⟨_, rfl⟩
  obtain ⟨q, hq⟩ : ∃ q, q = ((Fi.names ps)[lb (Fi.names ps) t]? == some t) := ⟨_, rfl⟩
  rw [← hq, ← hr] at HB ⊢
  clear hq hr hl hs
  go_enter Try.func30, Try.ntmps30
  go_wp2_with fail
  (with_reducible refine HB.out.mono ?_); rintro e w2 ⟨rfl, b2⟩
  go_wp2_with fail
  go_ret2
  exact ⟨rfl, b2⟩

theorem getF_at {l : List Fl} (h : Fi.Ord l) {i : Nat} (hi : i < l.length) : Fi.get l l[i].1 = (l[i].2, true) := by
  have e : l.find? (fun f => f.1 == l[i].1) = some l[i] := by
    rw [List.find?_eq_some_iff_getElem]
    refine ⟨by simp, i, hi, rfl, fun j hj => ?_⟩
    have hp := List.pairwise_iff_getElem.1 h j i (by rw [Fi.names_len]; omega) (by rw [Fi.names_len]; exact hi) hj
    rw [Fi.names_at (by omega), Fi.names_at hi] at hp
    have : l[j].1 ≠ l[i].1 := fun e => by rw [e, cb_self] at hp; omega
    simpa using this
  unfold Fi.get
  rw [e]
theorem getF_none {l : List Fl} {t : List UInt8} (h : Fi.has l t = false) : Fi.get l t = ([], false) := by
  have e : l.find? (fun f => f.1 == t) = none := by
    rw [List.find?_eq_none]
    intro f hf he
    have : t ∈ Fi.names l := List.mem_map.2 ⟨f, hf, by simpa using he⟩
    unfold Fi.has at h
    simp [this] at h
  unfold Fi.get
  rw [e]

set_option maxHeartbeats 1600000 in
/-- 'Get'. -/
theorem fget_any (v : Value) (l : List Fl) (t : List UInt8) (w : World) (hl : Rf w v l) (hlen : l.length ≤ 1000000) (hs : Fi.Ord l) :
    Calls Try.prog 10 #[v, .string (S t)] w fun e w' => e = .returned (.tuple #[.string (S (Fi.get l t).1), .bool (Fi.get l t).2]) ∧ Below w.heap.size w w' := by
  have HP := Lib.hid (place_any v l t w hl hlen hs)
  have HR := Lib.hid hl
  obtain ⟨a0, c0, rfl⟩ := hl.shape
  have hat := Fi.has_at hs t
  rw [lb_is hs] at HP
  rw [show (Fi.names l).contains t = Fi.has l t from rfl] at HP
  have hle := Fi.lbn_le l t
  obtain ⟨r, hr⟩ : ∃ r, r = lb (Fi.names l) t := ⟨_, rfl⟩
  rw [← hr] at HP hat hle
  cases hq : Fi.has l t
  · have HG := Lib.hid (getF_none hq)
    rw [hq] at HP
    rw [HG.out]
    clear hq hat hr hl hs HR
    go_enter Try.func10, Try.ntmps10
    go_wp2_with fail
    (with_reducible refine HP.out.mono ?_); rintro e w2 ⟨rfl, b2⟩
    simp only [S_lit]
    go_wp2_with fail
    go_ret2
    exact ⟨rfl, b2⟩
  · rw [hq] at HP hat
    obtain ⟨hrl, hn⟩ := of_decide_eq_true hat.symm
    have hG := getF_at hs hrl
    rw [hn] at hG
    have HG := Lib.hid hG
    rw [HG.out]
    clear hq hat hr hl hs hG
    have hri : (r : Int) < (l.length : Int) := by omega
    obtain ⟨tx, htx⟩ : ∃ tx, tx = l[r].2 := ⟨_, rfl⟩
    have HT := Lib.hid htx
    rw [← HT.out]
    clear htx
    go_enter Try.func10, Try.ntmps10
    go_wp2_with fail
    (with_reducible refine HP.out.mono ?_); rintro e w2 ⟨rfl, b2⟩
    obtain ⟨b1, o1, rfl, c1, c2⟩ := (HR.out.below' b2).at hrl
    rw [← HT.out] at c2
    go_wp2_with fail
    go_ret2
    exact ⟨rfl, b2⟩

end Go.Proofs.Ytgpifaedcelnnaa
