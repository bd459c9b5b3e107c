
/- Map of the reference; the law's Cut. No condition. -/
import Derived.Test.YtgpifaedcelnnaaFiRefPut
import Derived.Test.YtgpifaedcelnnaaFiFixed
namespace Go.Proofs.Ytgpifaedcelnnaa
open Go.RowKit

theorem putL_len (l : List Fl) (f : Fl) : (Fi.putL l f).length ≤ l.length + 1 := by
  unfold Fi.putL
  split
  · simp
  · rw [List.length_append, List.length_cons, List.length_take, List.length_drop]; omega
theorem put_len (l : List Fl) (f : Fl) : (Fi.put l f).1.length ≤ l.length + 1 := by
  unfold Fi.put
  split
  · simp
  · split
    · simp
    · exact putL_len l f
theorem ord_putL {l : List Fl} (h : Fi.Ord l) (f : Fl) : Fi.Ord (Fi.putL l f) := by
  obtain ⟨n, hn⟩ : ∃ n, n = lb (Fi.names (Fi.drop l f.1)) f.1 := ⟨_, rfl⟩
  rw [← putL_ref h f hn]
  have hd := ord_drop h f.1
  have hne : ∀ g ∈ Fi.drop l f.1, g.1 ≠ f.1 := fun g hg => by
    have := (List.mem_filter.1 hg).2
    simpa using this
  obtain ⟨rest, hrest⟩ : ∃ rest, rest = Fi.drop l f.1 := ⟨_, rfl⟩
  rw [← hrest] at hd hne hn ⊢
  clear hrest
  have hnl : n ≤ rest.length := by rw [hn]; exact Fi.lbn_le rest f.1
  have hp := List.pairwise_iff_getElem.1 hd
  have hlow : ∀ x (hx : x < rest.length), x < n → Lib.compareBytes rest[x].1 f.1 < 0 := fun x hx hxn => by
    have := Fi.lb_lt (ns := Fi.names rest) (t := f.1) (x := x) (by rw [Fi.names_len]; exact hx) (by rw [← hn]; exact hxn)
    rw [Fi.names_at hx] at this
    exact this
  have hhigh : ∀ x (hx : x < rest.length), n ≤ x → Lib.compareBytes f.1 rest[x].1 < 0 := fun x hx hxn => by
    have h0 : 0 ≤ Lib.compareBytes rest[n].1 f.1 := by
      have := Fi.lb_ge (ns := Fi.names rest) (t := f.1) (by rw [← hn, Fi.names_len]; omega)
      simp only [← hn] at this
      rw [Fi.names_at (by omega)] at this
      exact this
    have h1 : Lib.compareBytes rest[n].1 f.1 ≠ 0 := fun e => hne rest[n] (List.getElem_mem _) (cb_eq e)
    have h2 : Lib.compareBytes f.1 rest[n].1 < 0 := by rw [cb_swap]; omega
    by_cases e : x = n
    · subst e; exact h2
    · have h3 := hp n x (by rw [Fi.names_len]; omega) (by rw [Fi.names_len]; exact hx) (by omega)
      rw [Fi.names_at (by omega), Fi.names_at hx] at h3
      exact cb_trans h2 h3
  unfold Fi.Ord Sorted Fi.names
  rw [List.map_append, List.map_cons, List.pairwise_append, List.pairwise_cons]
  have hd' : (rest.map Prod.fst).Pairwise fun a b => Lib.compareBytes a b < 0 := hd
  refine ⟨?_, ⟨?_, ?_⟩, ?_⟩
  · exact hd'.sublist ((List.take_sublist n rest).map _)
  · intro a ha
    obtain ⟨g, hg, rfl⟩ := List.mem_map.1 ha
    obtain ⟨j, hj, rfl⟩ := List.getElem_of_mem hg
    rw [List.length_drop] at hj
    rw [List.getElem_drop]
    exact hhigh (n + j) (by omega) (by omega)
  · exact hd'.sublist ((List.drop_sublist n rest).map _)
  · intro a ha b hb
    obtain ⟨g, hg, rfl⟩ := List.mem_map.1 ha
    obtain ⟨i, hi, rfl⟩ := List.getElem_of_mem hg
    rw [List.length_take] at hi
    rw [List.getElem_take]
    have h4 := hlow i (by omega) (by omega)
    rcases List.mem_cons.1 hb with rfl | hb
    · exact h4
    · obtain ⟨g, hg, rfl⟩ := List.mem_map.1 hb
      obtain ⟨j, hj, rfl⟩ := List.getElem_of_mem hg
      rw [List.length_drop] at hj
      rw [List.getElem_drop]
      exact cb_trans h4 (hhigh (n + j) (by omega) (by omega))
theorem ord_put {l : List Fl} (h : Fi.Ord l) (f : Fl) : Fi.Ord (Fi.put l f).1 := by
  unfold Fi.put
  split
  · unfold Fi.Ord Sorted Fi.names; simp
  · split
    · unfold Fi.Ord Sorted Fi.names; simp
    · exact ord_putL h f
theorem ord_nil : Fi.Ord [] := by unfold Fi.Ord Sorted Fi.names; simp

theorem take_min9 {α : Type} (l : List α) (n : Nat) : l.take (min (l.length : Int) (n : Int)).toNat = l.take n := by
  have e : (min (l.length : Int) (n : Int)).toNat = min l.length n := by omega
  rw [e]
  by_cases h : l.length ≤ n
  · rw [Nat.min_eq_left h, List.take_length, List.take_of_length_le h]
  · rw [Nat.min_eq_right (by omega)]
theorem map_end (m b : Nat) (out : List Fl) : Fi.mapF m b out [] = out := rfl
theorem map_step (m b : Nat) (out r : List Fl) (f : Fl) : Fi.mapF m b out (f :: r) = Fi.mapF m b (if (Fi.put out (f.1, f.2.take b)).2 = 0 then (Fi.put out (f.1, f.2.take b)).1 else out) r := rfl
theorem put_zero (l : List Fl) (f : Fl) : (Fi.put l f).2 = 0 ∨ (Fi.put l f).2 = 2 ∨ (Fi.put l f).2 = 3 := by
  unfold Fi.put
  split
  · simp
  · split <;> simp

set_option maxRecDepth 20000 in
set_option maxHeartbeats 4000000 in
/-- 'Map' of the reference. -/
theorem refMap_any (v : Value) (l : List Fl) (most bytes : Nat) (w : World) (hl : Rf w v l) (hm : most ≤ 1000) (hby : bytes ≤ 1000000) (hs : ∀ f ∈ l, f.1.length ≤ 9223372036854775807 ∧ f.2.length ≤ 9223372036854775807) :
    Calls Try.prog 22 #[v, .int .i64 (most : Int), .int .i64 (bytes : Int)] w fun e w' => ∃ v', e = .returned v' ∧ w'.ownsRow w.heap.size 25 2 v' (Fi.map l most bytes).length (fcs (Fi.map l most bytes)) ∧ Below w.heap.size w w' := by
  obtain ⟨a0, c0, rfl⟩ := hl.shape
  have HL := Lib.hid hl
  have HS := Lib.hid hs
  clear hl hs
  go_enter Try.func22, Try.ntmps22
  go_wp2_with fail
  go_loopw [7, 8] (fun v i wr => ∃ (k : Nat) (out : List Fl), k ≤ l.length ∧ k ≤ most ∧ i = .int .i64 k ∧ Hid (Fi.map l most bytes = Fi.mapF most bytes out ((l.take most).drop k)) ∧ Hid (Fi.Ord out) ∧ out.length ≤ k ∧ wr.ownsRow w.heap.size 25 2 v out.length (fcs out) ∧ Below w.heap.size w wr) (fun _ i _ => l.length - (intOf i).toNat)
  case atStart => exact ⟨0, [], Nat.zero_le _, Nat.zero_le _, rfl, Lib.hid rfl, Lib.hid ord_nil, Nat.le_refl _, World.ownsRow_made w #[] 0 (Nat.le_refl _) (by decide) rfl, (Below.refl _ _).alloc (Nat.le_refl _) _⟩
  case round =>
    obtain ⟨k, out, hk, hkm, rfl, HE, HO, hol, hown, hbw⟩ := hrel
    have hsz := hbw.size
    by_cases hin : k < l.length ∧ k < most
    · obtain ⟨hlt, hlm⟩ := hin
      obtain ⟨b1, o1, rfl, c10, c11⟩ := (HL.out.below' hbw).at hlt
      have hsk := HS.out _ (List.getElem_mem hlt)
      have hdr : (l.take most).drop k = l[k] :: (l.take most).drop (k + 1) := by
        have h1 : k < (l.take most).length := by rw [List.length_take]; omega
        rw [List.drop_eq_getElem_cons h1, List.getElem_take]
      have HM := Lib.hid (HE.out.trans (by rw [hdr, map_step]))
      obtain ⟨⟨nm, tx⟩, hx⟩ : ∃ x, x = l[k] := ⟨_, rfl⟩
      rw [← hx] at c10 c11 hsk HM
      simp only at hsk HM
      clear hx hdr HE
      have htk : tx.take (min (tx.length : Int) (bytes : Int)).toNat = tx.take bytes := by
        have e : (min (tx.length : Int) (bytes : Int)).toNat = min tx.length bytes := by omega
        rw [e]
        by_cases h : tx.length ≤ bytes
        · rw [Nat.min_eq_left h, List.take_length, List.take_of_length_le h]
        · rw [Nat.min_eq_right (by omega)]
      have hm1 : (0 : Int) ≤ min (tx.length : Int) (bytes : Int) := by omega
      have hm2 : min (tx.length : Int) (bytes : Int) ≤ (tx.length : Int) := by omega
      have hki : (k : Int) < (l.length : Int) := by omega
      have hkmi : (k : Int) < (most : Int) := by omega
      obtain ⟨tb, htb⟩ : ∃ tb, tb = tx.take bytes := ⟨_, rfl⟩
      rw [← htb] at HM htk
      clear htb
      have hox := hown.alloc (.cells #[.string (S nm), .string (S tb)] 25)
      have bx := hbw.alloc hsz (.cells #[.string (S nm), .string (S tb)] 25)
      have HPC := Lib.hid (refFput_any u7 out (nm, tb) _ (rf_own hox) (by omega) HO.out hsk.1)
      have hpz := put_zero out (nm, tb)
      have hpo := ord_put HO.out (nm, tb)
      have hpl := put_len out (nm, tb)
      obtain ⟨⟨po, pe⟩, hp⟩ : ∃ p, p = Fi.put out (nm, tb) := ⟨_, rfl⟩
      rw [← hp] at HPC hpz hpo hpl HM
      simp only at HPC hpz hpl HM
      have HPO := Lib.hid hpo
      clear hp hpo hown
      go_wp2_with fail
      (with_reducible refine HPC.out.mono ?_); rintro e w2 ⟨v2, rfl, o2, b2⟩
      have B2 := bx.trans (b2.mono bx.size)
      rcases hpz with rfl | hz
      · have HM2 := Lib.hid (show Fi.map l most bytes = Fi.mapF most bytes po ((l.take most).drop (k + 1)) by rw [HM.out, if_pos rfl])
        go_wp2_with fail
        go_roundw
        case rel => exact ⟨k + 1, po, by omega, by omega, by go_num, HM2, HPO, by omega, own_mono o2 bx.size, B2⟩
        case measure => simp [intOf]; omega
      · have hpe : (pe == 0) = false := by rcases hz with rfl | rfl <;> rfl
        have HM2 := Lib.hid (show Fi.map l most bytes = Fi.mapF most bytes out ((l.take most).drop (k + 1)) by rw [HM.out, if_neg (by rcases hz with rfl | rfl <;> decide)])
        clear hz
        go_wp2_with fail
        go_roundw
        case rel => exact ⟨k + 1, out, by omega, by omega, by go_num, HM2, HO, by omega, own_below hox (own_under hox) b2, B2⟩
        case measure => simp [intOf]; omega
    · have HF := Lib.hid (show Fi.map l most bytes = out by rw [HE.out, List.drop_eq_nil_of_le (by rw [List.length_take]; omega)]; rfl)
      have hstop : k = l.length ∨ (k < l.length ∧ k = most) := by omega
      rcases hstop with rfl | ⟨h, rfl⟩
      · go_wp2_with fail
        go_ret
        exact ⟨_, rfl, by rw [HF.out]; exact hown, hbw⟩
      · go_wp2_with fail
        go_ret
        exact ⟨_, rfl, by rw [HF.out]; exact hown, hbw⟩

set_option maxRecDepth 20000 in
set_option maxHeartbeats 1600000 in
/-- 'Cut' of the law: a file of such a name, of such a text. -/
theorem fcut_any (f : Fl) (w : World) (hf : f.1.length ≤ 9223372036854775807 ∧ f.2.length ≤ 9223372036854775807) :
    Calls Try.prog 9 #[.agg #[.string (S f.1), .string (S f.2)]] w fun e w' => e = .returned (.agg #[.string (S (f.1.take 40)), .string (S (f.2.take 4100))]) ∧ Below w.heap.size w w' := by
  obtain ⟨nm, tx⟩ := f
  simp only at hf
  have m1 := take_min9 nm 40
  have m2 := take_min9 tx 4100
  simp only [Int.cast_ofNat_Int] at m1 m2
  have h1 : (0 : Int) ≤ min (nm.length : Int) 40 := by omega
  have h2 : min (nm.length : Int) 40 ≤ (nm.length : Int) := by omega
  have h3 : (0 : Int) ≤ min (tx.length : Int) 4100 := by omega
  have h4 : min (tx.length : Int) 4100 ≤ (tx.length : Int) := by omega
  go_enter Try.func9, Try.ntmps9
  go_wp2_with fail
  have hr := alloc2_second w (.cells #[.string (S (nm.take 40)), .string (S (tx.take 4100))] 25) (.cells #[.string (S (nm.take 40)), .string (S (tx.take 4100))] 25)
  have x0 := pair_cell0 hr
  have x1 := pair_cell1 hr
  exact bodyPost_ret (v := .agg #[.string (S (nm.take 40)), .string (S (tx.take 4100))]) (by simp [results, Try.results9, go_sem, x0, x1]) rfl ⟨rfl, ((Below.refl _ _).alloc (Nat.le_refl _) _).alloc (by simp) _⟩

end Go.Proofs.Ytgpifaedcelnnaa
