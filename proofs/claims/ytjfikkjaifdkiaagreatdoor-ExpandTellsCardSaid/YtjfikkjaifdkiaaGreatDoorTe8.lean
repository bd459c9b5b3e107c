/- Walks and plain laws, 8: Map of the reference; the law's Cut. No condition. What the expansion laws call: 'Files', 'Ref', 'Notes', 'Same', 'of', walked; Expand once more. No condition. What the expansion laws call: 'Same', 'of', walked. No condition. The expansion laws' fixed calls: what the expansions are. No condition. 'safe' and 'Text', of the lexer and of its reference, walked. The expansion laws' fixed calls, walked. No condition. Expansions, plainly: what they keep, and how two go side by side. No condition. How much an expansion puts out, reads and notes. No condition. Maps of files: how many, how long, in order. No condition. 'ExpandBounds', walked: it answers true at every input. No condition. -/
import Derived.Test.YtjfikkjaifdkiaaGreatDoorTe7
namespace Go.Proofs.YtjfikkjaifdkiaaGreatDoor
open Go.RowKit

theorem putL_len (l : List Fl) (f : Fl) : (Fi.putL l f).length ≤ l.length + 1 := by
  unfold Fi.putL
  split
  · simp
  · rw [List.length_append, List.length_cons, List.length_take, List.length_drop]; omega
theorem put_len (l : List Fl) (f : Fl) : (Fi.put l f).1.length ≤ l.length + 1 := by
  unfold Fi.put
  split
  · simp
  · split
    · simp
    · exact putL_len l f
theorem ord_putL {l : List Fl} (h : Fi.Ord l) (f : Fl) : Fi.Ord (Fi.putL l f) := by
  obtain ⟨n, hn⟩ : ∃ n, n = lb (Fi.names (Fi.drop l f.1)) f.1 := ⟨_, rfl⟩
  rw [← putL_ref h f hn]
  have hd := ord_drop h f.1
  have hne : ∀ g ∈ Fi.drop l f.1, g.1 ≠ f.1 := fun g hg => by
    have := (List.mem_filter.1 hg).2
    simpa using this
  obtain ⟨rest, hrest⟩ : ∃ rest, rest = Fi.drop l f.1 := ⟨_, rfl⟩
  rw [← hrest] at hd hne hn ⊢
  clear hrest
  have hnl : n ≤ rest.length := by rw [hn]; exact Fi.lbn_le rest f.1
  have hp := List.pairwise_iff_getElem.1 hd
  have hlow : ∀ x (hx : x < rest.length), x < n → Lib.compareBytes rest[x].1 f.1 < 0 := fun x hx hxn => by
    have := lb_lt (ns := Fi.names rest) (t := f.1) (x := x) (by rw [Fi.names_len]; exact hx) (by rw [← hn]; exact hxn)
    rw [Fi.names_at hx] at this
    exact this
  have hhigh : ∀ x (hx : x < rest.length), n ≤ x → Lib.compareBytes f.1 rest[x].1 < 0 := fun x hx hxn => by
    have h0 : 0 ≤ Lib.compareBytes rest[n].1 f.1 := by
      have := lb_ge (ns := Fi.names rest) (t := f.1) (by rw [← hn, Fi.names_len]; omega)
      simp only [← hn] at this
      rw [Fi.names_at (by omega)] at this
      exact this
    have h1 : Lib.compareBytes rest[n].1 f.1 ≠ 0 := fun e => hne rest[n] (List.getElem_mem _) (cb_eq e)
    have h2 : Lib.compareBytes f.1 rest[n].1 < 0 := by rw [cb_swap]; omega
    by_cases e : x = n
    · subst e; exact h2
    · have h3 := hp n x (by rw [Fi.names_len]; omega) (by rw [Fi.names_len]; exact hx) (by omega)
      rw [Fi.names_at (by omega), Fi.names_at hx] at h3
      exact cb_trans h2 h3
  unfold Fi.Ord Sorted Fi.names
  rw [List.map_append, List.map_cons, List.pairwise_append, List.pairwise_cons]
  have hd' : (rest.map Prod.fst).Pairwise fun a b => Lib.compareBytes a b < 0 := hd
  refine ⟨?_, ⟨?_, ?_⟩, ?_⟩
  · exact hd'.sublist ((List.take_sublist n rest).map _)
  · intro a ha
    obtain ⟨g, hg, rfl⟩ := List.mem_map.1 ha
    obtain ⟨j, hj, rfl⟩ := List.getElem_of_mem hg
    rw [List.length_drop] at hj
    rw [List.getElem_drop]
    exact hhigh (n + j) (by omega) (by omega)
  · exact hd'.sublist ((List.drop_sublist n rest).map _)
  · intro a ha b hb
    obtain ⟨g, hg, rfl⟩ := List.mem_map.1 ha
    obtain ⟨i, hi, rfl⟩ := List.getElem_of_mem hg
    rw [List.length_take] at hi
    rw [List.getElem_take]
    have h4 := hlow i (by omega) (by omega)
    rcases List.mem_cons.1 hb with rfl | hb
    · exact h4
    · obtain ⟨g, hg, rfl⟩ := List.mem_map.1 hb
      obtain ⟨j, hj, rfl⟩ := List.getElem_of_mem hg
      rw [List.length_drop] at hj
      rw [List.getElem_drop]
      exact cb_trans h4 (hhigh (n + j) (by omega) (by omega))
theorem ord_put {l : List Fl} (h : Fi.Ord l) (f : Fl) : Fi.Ord (Fi.put l f).1 := by
  unfold Fi.put
  split
  · unfold Fi.Ord Sorted Fi.names; simp
  · split
    · unfold Fi.Ord Sorted Fi.names; simp
    · exact ord_putL h f
theorem ord_nil : Fi.Ord [] := by unfold Fi.Ord Sorted Fi.names; simp

theorem take_min9 {α : Type} (l : List α) (n : Nat) : l.take (min (l.length : Int) (n : Int)).toNat = l.take n := by
  have e : (min (l.length : Int) (n : Int)).toNat = min l.length n := by omega
  rw [e]
  by_cases h : l.length ≤ n
  · rw [Nat.min_eq_left h, List.take_length, List.take_of_length_le h]
  · rw [Nat.min_eq_right (by omega)]
theorem map_end (m b : Nat) (out : List Fl) : Fi.mapF m b out [] = out := rfl
theorem map_step (m b : Nat) (out r : List Fl) (f : Fl) : Fi.mapF m b out (f :: r) = Fi.mapF m b (if (Fi.put out (f.1, f.2.take b)).2 = 0 then (Fi.put out (f.1, f.2.take b)).1 else out) r := rfl
theorem put_zero (l : List Fl) (f : Fl) : (Fi.put l f).2 = 0 ∨ (Fi.put l f).2 = 2 ∨ (Fi.put l f).2 = 3 := by
  unfold Fi.put
  split
  · simp
  · split <;> simp

set_option maxRecDepth 20000 in
set_option maxHeartbeats 4000000 in
/-- 'Map' of the reference. -/
theorem refMap_any (v : Value) (l : List Fl) (most bytes : Nat) (w : World) (hl : Rf w v l) (hm : most ≤ 1000) (hby : bytes ≤ 1000000) (hs : ∀ f ∈ l, f.1.length ≤ 9223372036854775807 ∧ f.2.length ≤ 9223372036854775807) :
    Calls Tryz.prog 13 #[v, .int .i64 (most : Int), .int .i64 (bytes : Int)] w fun e w' => ∃ v', e = .returned v' ∧ w'.ownsRow w.heap.size 45 2 v' (Fi.map l most bytes).length (fcs (Fi.map l most bytes)) ∧ Below w.heap.size w w' := by
  obtain ⟨a0, c0, rfl⟩ := hl.shape
  have HL := Lib.hid hl
  have HS := Lib.hid hs
  clear hl hs
  go_enter Tryz.func13, Tryz.ntmps13
  go_wp2_with fail
  go_loopw [7, 8] (fun v i wr => ∃ (k : Nat) (out : List Fl), k ≤ l.length ∧ k ≤ most ∧ i = .int .i64 k ∧ Hid (Fi.map l most bytes = Fi.mapF most bytes out ((l.take most).drop k)) ∧ Hid (Fi.Ord out) ∧ out.length ≤ k ∧ wr.ownsRow w.heap.size 45 2 v out.length (fcs out) ∧ Below w.heap.size w wr) (fun _ i _ => l.length - (intOf i).toNat)
  case atStart => exact ⟨0, [], Nat.zero_le _, Nat.zero_le _, rfl, Lib.hid rfl, Lib.hid ord_nil, Nat.le_refl _, World.ownsRow_made w #[] 0 (Nat.le_refl _) (by decide) rfl, (Below.refl _ _).alloc (Nat.le_refl _) _⟩
  case round =>
    obtain ⟨k, out, hk, hkm, rfl, HE, HO, hol, hown, hbw⟩ := hrel
    have hsz := hbw.size
    by_cases hin : k < l.length ∧ k < most
    · obtain ⟨hlt, hlm⟩ := hin
      obtain ⟨b1, o1, rfl, c10, c11⟩ := (HL.out.below' hbw).at hlt
      have hsk := HS.out _ (List.getElem_mem hlt)
      have hdr : (l.take most).drop k = l[k] :: (l.take most).drop (k + 1) := by
        have h1 : k < (l.take most).length := by rw [List.length_take]; omega
        rw [List.drop_eq_getElem_cons h1, List.getElem_take]
      have HM := Lib.hid (HE.out.trans (by rw [hdr, map_step]))
      obtain ⟨⟨nm, tx⟩, hx⟩ : ∃ x, x = l[k] := ⟨_, rfl⟩
      rw [← hx] at c10 c11 hsk HM
      simp only at hsk HM
      clear hx hdr HE
      have htk : tx.take (min (tx.length : Int) (bytes : Int)).toNat = tx.take bytes := by
        have e : (min (tx.length : Int) (bytes : Int)).toNat = min tx.length bytes := by omega
        rw [e]
        by_cases h : tx.length ≤ bytes
        · rw [Nat.min_eq_left h, List.take_length, List.take_of_length_le h]
        · rw [Nat.min_eq_right (by omega)]
      have hm1 : (0 : Int) ≤ min (tx.length : Int) (bytes : Int) := by omega
      have hm2 : min (tx.length : Int) (bytes : Int) ≤ (tx.length : Int) := by omega
      have hki : (k : Int) < (l.length : Int) := by omega
      have hkmi : (k : Int) < (most : Int) := by omega
      obtain ⟨tb, htb⟩ : ∃ tb, tb = tx.take bytes := ⟨_, rfl⟩
      rw [← htb] at HM htk
      clear htb
      have hox := hown.alloc (.cells #[.string (S nm), .string (S tb)] 45)
      have bx := hbw.alloc hsz (.cells #[.string (S nm), .string (S tb)] 45)
      have HPC := Lib.hid (refFput_any u7 out (nm, tb) _ (rf_own hox) (by omega) HO.out hsk.1)
      have hpz := put_zero out (nm, tb)
      have hpo := ord_put HO.out (nm, tb)
      have hpl := put_len out (nm, tb)
      obtain ⟨⟨po, pe⟩, hp⟩ : ∃ p, p = Fi.put out (nm, tb) := ⟨_, rfl⟩
      rw [← hp] at HPC hpz hpo hpl HM
      simp only at HPC hpz hpl HM
      have HPO := Lib.hid hpo
      clear hp hpo hown
      go_wp2_with fail
      (with_reducible refine HPC.out.mono ?_); rintro e w2 ⟨v2, rfl, o2, b2⟩
      have B2 := bx.trans (b2.mono bx.size)
      rcases hpz with rfl | hz
      · have HM2 := Lib.hid (show Fi.map l most bytes = Fi.mapF most bytes po ((l.take most).drop (k + 1)) by rw [HM.out, if_pos rfl])
        go_wp2_with fail
        go_roundw
        case rel => exact ⟨k + 1, po, by omega, by omega, by go_num, HM2, HPO, by omega, own_mono o2 bx.size, B2⟩
        case measure => simp [intOf]; omega
      · have hpe : (pe == 0) = false := by rcases hz with rfl | rfl <;> rfl
        have HM2 := Lib.hid (show Fi.map l most bytes = Fi.mapF most bytes out ((l.take most).drop (k + 1)) by rw [HM.out, if_neg (by rcases hz with rfl | rfl <;> decide)])
        clear hz
        go_wp2_with fail
        go_roundw
        case rel => exact ⟨k + 1, out, by omega, by omega, by go_num, HM2, HO, by omega, own_below hox (own_under hox) b2, B2⟩
        case measure => simp [intOf]; omega
    · have HF := Lib.hid (show Fi.map l most bytes = out by rw [HE.out, List.drop_eq_nil_of_le (by rw [List.length_take]; omega)]; rfl)
      have hstop : k = l.length ∨ (k < l.length ∧ k = most) := by omega
      rcases hstop with rfl | ⟨h, rfl⟩
      · go_wp2_with fail
        go_ret
        exact ⟨_, rfl, by rw [HF.out]; exact hown, hbw⟩
      · go_wp2_with fail
        go_ret
        exact ⟨_, rfl, by rw [HF.out]; exact hown, hbw⟩

end Go.Proofs.YtjfikkjaifdkiaaGreatDoor

namespace Go.Proofs.YtjfikkjaifdkiaaGreatDoor
open Go.RowKit

theorem results_cell1 {fn : Func} {p : Tmp} {ty : TypeId} (h : fn.results = #[.cell p ty]) (tmps : Array Value) (P : Program) (w : World) :
    (results fn tmps).run P w = ((asAddr (tmps.getD p undef)).run P w).andThen fun a w₁ => (loadVar ty a).run P w₁ := by
  simp only [results, h]
  simp [Sem.run_bind, Result.andThen]
/-- How an expansion reads. -/
def RdO (w : World) (v : Value) (E : Ex.St) : Prop := ∃ vL vR vN, v = .agg #[vL, vR, vN, .int .i64 (E.used : Int)] ∧ Rt w vL E.outL ∧ Rx w vR E.reads ∧ Rt w vN E.notes
theorem RdO.below' {w w' : World} {v : Value} {E : Ex.St} (h : RdO w v E) (hb : Below w.heap.size w w') : RdO w' v E := by
  obtain ⟨vL, vR, vN, e, h1, h2, h3⟩ := h
  exact ⟨vL, vR, vN, e, h1.below' hb, Rd.below' h2 hb, h3.below' hb⟩
theorem RdO.keep {w w' : World} {v : Value} {E : Ex.St} {p : Nat → Prop} (h : RdO w v E) (hk : Kw w w' p) (hp : ∀ vL vR vN, v = .agg #[vL, vR, vN, .int .i64 (E.used : Int)] → (∀ b, vL.ownBlock = some b → ¬ p b) ∧ (∀ b, vR.ownBlock = some b → ¬ p b) ∧ ∀ b, vN.ownBlock = some b → ¬ p b) : RdO w' v E := by
  obtain ⟨vL, vR, vN, e, h1, h2, h3⟩ := h
  obtain ⟨p1, p2, p3⟩ := hp _ _ _ e
  exact ⟨vL, vR, vN, e, Rd.keep h1 hk fun _ => p1, Rd.keep h2 hk fun _ => p2, Rd.keep h3 hk fun _ => p3⟩
/-- What it holds lies there or further on. -/
def FrO (B : Nat) (v : Value) : Prop := ∀ vL vR vN u, v = .agg #[vL, vR, vN, u] → (∀ b, vL.ownBlock = some b → B ≤ b) ∧ (∀ b, vR.ownBlock = some b → B ≤ b) ∧ ∀ b, vN.ownBlock = some b → B ≤ b
theorem exp9_any (vf : Value) (fs : List Fl) (main : List UInt8) (fuel most : Nat) (w : World) (hf : Rf w vf fs) (hfo : Fi.Ord fs) (hfl : fs.length ≤ 1000) (hft : ∀ f ∈ fs, f.2.length ≤ 1000) (hfu : fuel ≤ 100) (hmo : most ≤ 1000) (hgl : Gl w) (hw0 : 0 < w.heap.size) {zf zm : Int} (ef : zf = (fuel : Int)) (em : zm = (most : Int)) :
    Calls Tryz.prog 7 #[vf, .string (S main), .int .i64 zf, .int .i64 zm] w fun e w' => ∃ o, e = .returned (.tuple #[o, .int .i64 0]) ∧ RdO w' o (Ex.expand fs main fuel most) ∧ Below w.heap.size w w' ∧ FrO w.heap.size o := by
  subst ef
  subst em
  exact (expand_any vf fs main fuel most w hf hfo hfl hft hfu hmo hgl hw0).mono fun e w' ⟨vL, vR, vN, h1, h2, h3, h4, h5⟩ => ⟨_, h1, ⟨vL, vR, vN, rfl, own_rd h2, own_rd h3, own_rd h4⟩, h5, fun a b c u hu => by
    simp only [Value.agg.injEq, Array.mk.injEq, List.cons.injEq, and_true] at hu
    obtain ⟨rfl, rfl, rfl, _⟩ := hu
    exact ⟨fun j hj => by have := (h2.lt j hj).1; omega, fun j hj => by have := (h3.lt j hj).1; omega, fun j hj => by have := (h4.lt j hj).1; omega⟩⟩

set_option maxHeartbeats 1000000 in
/-- 'Expand': what may not be asked for. -/
theorem exp_bad (vf : Value) (main : List UInt8) (zf zm : Int) (w : World) (hz : zf < 0 ∨ 1000 < zf ∨ zm < 0 ∨ 20000 < zm) :
    Calls Tryz.prog 7 #[vf, .string (S main), .int .i64 zf, .int .i64 zm] w fun e w' => e = .returned (.tuple #[.agg #[.slice none 0 0, .slice none 0 0, .slice none 0 0, .int .i64 0], .int .i64 1]) ∧ Below w.heap.size w w' := by
  have hba : Below w.heap.size w (w.alloc (.cells #[.slice none 0 0, .slice none 0 0, .slice none 0 0, .int .i64 0] 31)) := (Below.refl _ _).alloc (Nat.le_refl _) _
  by_cases h1 : zf < 0
  · go_enter Tryz.func7, Tryz.ntmps7
    go_wp2_with fail
    (try simp only [Exit.inBlock, Exit.then])
    refine bodyPost_ret (v := .tuple #[.agg #[.slice none 0 0, .slice none 0 0, .slice none 0 0, .int .i64 0], .int .i64 1]) ?_ rfl ⟨rfl, hba⟩
    rw [results_cell_tmp rfl]
    go_simp
  · by_cases h2 : 1000 < zf
    · go_enter Tryz.func7, Tryz.ntmps7
      go_wp2_with fail
      (try simp only [Exit.inBlock, Exit.then])
      refine bodyPost_ret (v := .tuple #[.agg #[.slice none 0 0, .slice none 0 0, .slice none 0 0, .int .i64 0], .int .i64 1]) ?_ rfl ⟨rfl, hba⟩
      rw [results_cell_tmp rfl]
      go_simp
    · by_cases h3 : zm < 0
      · go_enter Tryz.func7, Tryz.ntmps7
        go_wp2_with fail
        (try simp only [Exit.inBlock, Exit.then])
        refine bodyPost_ret (v := .tuple #[.agg #[.slice none 0 0, .slice none 0 0, .slice none 0 0, .int .i64 0], .int .i64 1]) ?_ rfl ⟨rfl, hba⟩
        rw [results_cell_tmp rfl]
        go_simp
      · have h4 : 20000 < zm := by omega
        go_enter Tryz.func7, Tryz.ntmps7
        go_wp2_with fail
        (try simp only [Exit.inBlock, Exit.then])
        refine bodyPost_ret (v := .tuple #[.agg #[.slice none 0 0, .slice none 0 0, .slice none 0 0, .int .i64 0], .int .i64 1]) ?_ rfl ⟨rfl, hba⟩
        rw [results_cell_tmp rfl]
        go_simp

set_option maxHeartbeats 1000000 in
/-- 'Files'. -/
theorem files8_any (v : Value) (l : List Fl) (w : World) (hl : Rf w v l) (hs : ∀ f ∈ l, f.1.length ≤ 9223372036854775807 ∧ f.2.length ≤ 9223372036854775807) :
    Calls Tryz.prog 5 #[v] w fun e w' => ∃ v', e = .returned v' ∧ w'.ownsRow w.heap.size 45 2 v' (Fi.map l 6 200).length (fcs (Fi.map l 6 200)) ∧ Below w.heap.size w w' := by
  have HM := Lib.hid (show Calls Tryz.prog 13 #[v, .int .i64 6, .int .i64 200] w _ from refMap_any v l 6 200 w hl (by decide) (by decide) hs)
  go_enter Tryz.func5, Tryz.ntmps5
  go_wp2_with (go_at_call 13; (with_reducible refine HM.out.mono ?_); rintro e w1 ⟨v1, rfl, o1, b1⟩)
  go_ret
  exact ⟨_, rfl, o1, b1⟩

theorem run_neq_note (a b : Lx.Tok) (w : World) : (binOp .neq 81 (.agg #[.int .i64 a.1, .string (S a.2)]) (.agg #[.int .i64 b.1, .string (S b.2)])).run Tryz.prog w = .ok (.bool (a != b)) w := by
  obtain ⟨a, s⟩ := a
  obtain ⟨b, t⟩ := b
  by_cases h : a = b <;> by_cases h2 : s = t <;> simp [go_sem, h, h2, bne]

set_option maxHeartbeats 400000 in
/-- 'Notes': are they the same? -/
theorem notes_any (va vb : Value) (la lb : List Lx.Tok) (w : World) (ha : Rt w va la) (hb : Rt w vb lb) (hla : la.length ≤ 1000000000000) (hlb : lb.length ≤ 1000000000000) :
    Calls Tryz.prog 25 #[va, vb] w fun e w' => e = .returned (.bool (la == lb)) ∧ Below w.heap.size w w' := by
  have hne := run_neq_note
  obtain ⟨aa, ca, rfl⟩ := ha.shape
  obtain ⟨ab, cb, rfl⟩ := hb.shape
  by_cases hlen : la.length = lb.length
  · have HL := Lib.hid hlen
    have hb1 : ((la.length : Int) != (lb.length : Int)) = false := by simp [hlen]
    clear hlen
    go_enter Tryz.func25, Tryz.ntmps25
    go_wp2
    go_loopw [4, 5] (fun _ i wr => ∃ k : Nat, k ≤ la.length ∧ i = .int .i64 k ∧ Hid (la.take k = lb.take k) ∧ Below w.heap.size w wr) (fun _ i _ => la.length - (intOf i).toNat)
    case atStart => exact ⟨0, Nat.zero_le _, rfl, rfl, Below.refl _ _⟩
    case round =>
      obtain ⟨k, hk, rfl, HE, hbw⟩ := hrel
      by_cases hlt : k < la.length
      · have hlt' : k < lb.length := HL.out ▸ hlt
        have ha' := ha.below' hbw
        have hb' := hb.below' hbw
        obtain ⟨b1, o1, rfl, c10, c11⟩ := ha'.at hlt
        obtain ⟨b2, o2, rfl, c20, c21⟩ := hb'.at hlt'
        clear ha' hb' ha hb
        go_wp2
        go_quiet (fail)
        go_wp2
        · have hx : (la[k] != lb[k]) = true := by assumption
          go_ret
          refine ⟨ret_bool ?_, below_drewN hbw _⟩
          have : la ≠ lb := fun e => ne_of_bne hx (by subst e; rfl)
          simp [this]
        · have hx : (la[k] != lb[k]) = false := by assumption
          go_roundw
          case rel => exact ⟨k + 1, by omega, by go_num, take_succ_eq hlt hlt' HE.out (eq_of_bne hx), below_drewN hbw _⟩
          case measure => simp [intOf]; omega
      · have hkl : k = la.length := by omega
        have heq : la = lb := by
          have := HE.out
          rw [hkl, List.take_length, HL.out, List.take_length] at this
          exact this
        have HQ := Lib.hid heq
        clear heq hkl ha hb
        go_wp2
        go_ret
        exact ⟨ret_bool (by simp [HQ.out]), hbw⟩
  · have hb1 : ((la.length : Int) != (lb.length : Int)) = true := by simp [bne]; omega
    go_enter Tryz.func25, Tryz.ntmps25
    go_wp2
    go_ret
    refine ⟨ret_bool ?_, Below.refl _ _⟩
    have : la ≠ lb := fun e => hlen (by rw [e])
    simp [this]

theorem rd_lt {w : World} {k n : Nat} {v : Value} {cs : List Value} (h : Rd w k v n cs) (h0 : 0 < n) {b : Nat} (hb : v.ownBlock = some b) : b < w.heap.size := by
  rcases h.2 with ⟨_, h9⟩ | ⟨b', o, cap, rfl, hlt, _, _⟩
  · omega
  · have e : b' = b := by simpa [Value.ownBlock] using hb
    subst e
    exact hlt h0
/-- A box of four cells. -/
theorem rd_box {w : World} {v : Value} {E : Ex.St} {vL vR vN : Value} (h : RdO w v E) (e : v = .agg #[vL, vR, vN, .int .i64 (E.used : Int)]) : Rt w vL E.outL ∧ Rx w vR E.reads ∧ Rt w vN E.notes := by
  obtain ⟨a, b', c, e', h1, h2, h3⟩ := h
  subst e'
  simp only [Value.agg.injEq, Array.mk.injEq, List.cons.injEq, and_true] at e
  obtain ⟨rfl, rfl, rfl⟩ := e
  exact ⟨h1, h2, h3⟩

set_option maxRecDepth 20000 in
set_option maxHeartbeats 4000000 in
/-- 'Ref': for the document. -/
theorem ref8_any (v : Value) (E : Ex.St) (w : World) (h : RdO w v E) (hl : E.outL.length ≤ 1000000) :
    Calls Tryz.prog 10 #[v] w fun e w' => ∃ o, e = .returned o ∧ RdO w' o E ∧ Below w.heap.size w w' := by
  obtain ⟨vL, vR, vN, rfl, h1, h2, h3⟩ := h
  obtain ⟨aL, cL, rfl⟩ := h1.shape
  obtain ⟨aR, cR, rfl⟩ := Rd.shape h2
  obtain ⟨aN, cN, rfl⟩ := h3.shape
  obtain ⟨nL, hnL⟩ : ∃ n, n = E.outL.length := ⟨_, rfl⟩
  obtain ⟨nR, hnR⟩ : ∃ n, n = E.reads.length := ⟨_, rfl⟩
  obtain ⟨nN, hnN⟩ : ∃ n, n = E.notes.length := ⟨_, rfl⟩
  obtain ⟨nU, hnU⟩ : ∃ n, n = E.used := ⟨_, rfl⟩
  rw [← hnL] at h1 ⊢
  rw [← hnR] at h2 ⊢
  rw [← hnN] at h3 ⊢
  rw [← hnU]
  obtain ⟨W0, hW0⟩ : ∃ W0, W0 = w.alloc (.cells #[.slice aL nL cL, .slice aR nR cR, .slice aN nN cN, .int .i64 (nU : Int)] 31) := ⟨_, rfl⟩
  obtain ⟨W1, hW1⟩ : ∃ W1, W1 = W0.alloc (.cells #[.slice none 0 0, .slice none 0 0, .slice none 0 0, .int .i64 0] 37) := ⟨_, rfl⟩
  have hs0 : W0.heap.size = w.heap.size + 1 := by rw [hW0]; simp
  have b0 : Below w.heap.size w W0 := by rw [hW0]; exact (Below.refl _ _).alloc (Nat.le_refl _) _
  have b1 : Below W0.heap.size W0 W1 := by rw [hW1]; exact (Below.refl _ _).alloc (Nat.le_refl _) _
  have r0 : Ro W0 w.heap.size 31 [.slice aL nL cL, .slice aR nR cR, .slice aN nN cN, .int .i64 (nU : Int)] := by rw [hW0]; exact heap_alloc_new w _
  have r1 : Ro W1 (w.heap.size + 1) 37 [.slice none 0 0, .slice none 0 0, .slice none 0 0, .int .i64 0] := by rw [hW1, ← hs0]; exact heap_alloc_new W0 _
  have r0 := r0.kw (Kw.of_below b1) (by omega)
  have b01 : Below w.heap.size w W1 := b0.trans (b1.mono b0.size)
  have HR0 := Lib.hid r0
  have HR1 := Lib.hid r1
  have HB := Lib.hid b01
  have HL9 : Hid ((0 < E.reads.length → ∀ b, (Value.slice aR nR cR).ownBlock = some b → b < w.heap.size) ∧ (0 < E.notes.length → ∀ b, (Value.slice aN nN cN).ownBlock = some b → b < w.heap.size)) := Lib.hid ⟨fun h0 _ hb => rd_lt h2 h0 hb, fun h0 _ hb => rd_lt h3 h0 hb⟩
  have HH := Lib.hid (And.intro (h1.below' b01) (And.intro (Rd.below' h2 b01) (h3.below' b01)))
  have HN := Lib.hid (And.intro hnL (And.intro hnR (And.intro hnN hnU)))
  have hc0 : ∀ W', Below W1.heap.size W1 W' → W'.cell? ⟨w.heap.size, 0, none⟩ = some (.slice aL nL cL) ∧ W'.cell? ⟨w.heap.size, 1, none⟩ = some (.slice aR nR cR) ∧ W'.cell? ⟨w.heap.size, 2, none⟩ = some (.slice aN nN cN) ∧ W'.cell? ⟨w.heap.size, 3, none⟩ = some (.int .i64 (nU : Int)) := fun W' hb => by
    have h9 := HR0.out.kw (Kw.of_below hb) (by have := HR0.out.lt; omega)
    exact ⟨h9.cell (i := 0) rfl, h9.cell (i := 1) rfl, h9.cell (i := 2) rfl, h9.cell (i := 3) rfl⟩
  have HC := Lib.hid hc0
  have bd : Below W1.heap.size W1 W1.drew := below_drewN (Below.refl W1.heap.size W1) 1
  have HRF := Lib.hid (refs_any (.slice aL nL cL) E.outL W1.drew ((h1.below' b01).below' bd) (by omega))
  have HW0 := Lib.hid hW0
  have HW1 := Lib.hid hW1
  have HS0 := Lib.hid hs0
  clear h1 h2 h3 hnL hnR hnN hnU hW0 hW1 b0 b1 r0 r1 b01 hc0 hs0
  go_enter Tryz.func10, Tryz.ntmps10
  go_upto_region 1 with fail
  rw [← HW0.out]
  rw [← HW1.out]
  go_region_held3 (fun w' => w'.cell? ⟨w.heap.size, 0, none⟩ = some (.slice aL nL cL) ∧ w'.cell? ⟨w.heap.size, 1, none⟩ = some (.slice aR nR cR) ∧ w'.cell? ⟨w.heap.size, 2, none⟩ = some (.slice aN nN cN) ∧ w'.cell? ⟨w.heap.size, 3, none⟩ = some (.int .i64 (nU : Int)))
    (first
      | exact HC.out _ (Below.refl _ _)
      | exact HC.out _ bd
      | exact HC.out _ b3'
      | exact ⟨y0, y1, y2, y3⟩
      | go_keep
      | fail)
    (first
      | (go_at_call 26; (with_reducible refine HRF.out.mono ?_); rintro e w3 ⟨vp, rfl, op, b3⟩; have b3' := bd.trans (b3.mono bd.size); obtain ⟨a3, c3, hv3⟩ := own_shape op; subst hv3; have r9 := HR1.out.kw (Kw.of_below b3') (by have := HR1.out.lt; omega); have z0 := r9.cell (i := 0) rfl; have z1 := r9.cell (i := 1) rfl; have z2 := r9.cell (i := 2) rfl; have z3 := r9.cell (i := 3) rfl; have f0 := r9.free 0; have f1 := r9.free 1; have f2 := r9.free 2; have f3 := r9.free 3; have q9 := HR0.out.kw (Kw.of_below b3') (by have := HR0.out.lt; omega); obtain ⟨y0, y1, y2, y3⟩ := (⟨((((q9.far (show w.heap.size ≠ w.heap.size + 1 by omega) 0 (.slice a3 E.outL.length c3)).far (show w.heap.size ≠ w.heap.size + 1 by omega) 1 (.slice aR nR cR)).far (show w.heap.size ≠ w.heap.size + 1 by omega) 2 (.slice aN nN cN)).far (show w.heap.size ≠ w.heap.size + 1 by omega) 3 (.int .i64 (nU : Int))).cell (i := 0) rfl, ((((q9.far (show w.heap.size ≠ w.heap.size + 1 by omega) 0 (.slice a3 E.outL.length c3)).far (show w.heap.size ≠ w.heap.size + 1 by omega) 1 (.slice aR nR cR)).far (show w.heap.size ≠ w.heap.size + 1 by omega) 2 (.slice aN nN cN)).far (show w.heap.size ≠ w.heap.size + 1 by omega) 3 (.int .i64 (nU : Int))).cell (i := 1) rfl, ((((q9.far (show w.heap.size ≠ w.heap.size + 1 by omega) 0 (.slice a3 E.outL.length c3)).far (show w.heap.size ≠ w.heap.size + 1 by omega) 1 (.slice aR nR cR)).far (show w.heap.size ≠ w.heap.size + 1 by omega) 2 (.slice aN nN cN)).far (show w.heap.size ≠ w.heap.size + 1 by omega) 3 (.int .i64 (nU : Int))).cell (i := 2) rfl, ((((q9.far (show w.heap.size ≠ w.heap.size + 1 by omega) 0 (.slice a3 E.outL.length c3)).far (show w.heap.size ≠ w.heap.size + 1 by omega) 1 (.slice aR nR cR)).far (show w.heap.size ≠ w.heap.size + 1 by omega) 2 (.slice aN nN cN)).far (show w.heap.size ≠ w.heap.size + 1 by omega) 3 (.int .i64 (nU : Int))).cell (i := 3) rfl⟩ : _ ∧ _ ∧ _ ∧ _))
      | fail)
  go_wp2_with fail
  (try simp only [Exit.inBlock, Exit.then])
  obtain ⟨WF, hWF⟩ : ∃ WF, WF = (((w3.setCell ⟨w.heap.size + 1, 0, none⟩ (.slice a3 E.outL.length c3)).setCell ⟨w.heap.size + 1, 1, none⟩ (.slice aR nR cR)).setCell ⟨w.heap.size + 1, 2, none⟩ (.slice aN nN cN)).setCell ⟨w.heap.size + 1, 3, none⟩ (.int .i64 (nU : Int)) := ⟨_, rfl⟩
  rw [← hWF]
  have hrF : Ro WF (w.heap.size + 1) 37 [.slice a3 E.outL.length c3, .slice aR nR cR, .slice aN nN cN, .int .i64 (nU : Int)] := by rw [hWF]; exact (((r9.set 0 _).set 1 _).set 2 _).set 3 _
  have hkF : Kw w3 WF fun j => j = w.heap.size + 1 := by
    rw [hWF]
    exact (((Kw.set _ _ 0 _).trans (Kw.set _ _ 1 _) fun _ _ e => e).trans (Kw.set _ _ 2 _) fun _ _ e => e).trans (Kw.set _ _ 3 _) fun _ _ e => e
  have g0 := hrF.cell (i := 0) rfl
  have g1 := hrF.cell (i := 1) rfl
  have g2 := hrF.cell (i := 2) rfl
  have g3 := hrF.cell (i := 3) rfl
  have hlt := HR1.out.lt
  refine bodyPost_ret (v := .agg #[.slice a3 E.outL.length c3, .slice aR nR cR, .slice aN nN cN, .int .i64 (nU : Int)]) ?_ rfl ⟨_, rfl, ⟨_, _, _, by rw [HN.out.2.2.2], ?_, ?_, ?_⟩, ?_⟩
  · rw [results_cell1 rfl]
    clear hWF
    go_simp
  · exact Rd.keep (own_rd op) hkF fun _ b hb e => by
      have h9 := (op.lt b hb).1
      have h8 : W1.drew.heap.size = W1.heap.size := rfl
      omega
  · exact Rd.keep (Rd.below' HH.out.2.1 b3') hkF fun h0 b hb e => by have := HL9.out.1 h0 b hb; omega
  · exact Rd.keep (HH.out.2.2.below' b3') hkF fun h0 b hb e => by have := HL9.out.2 h0 b hb; omega
  · exact (HB.out.trans (b3'.mono HB.out.size)).trans (hkF.below (fun j e => by omega) (by have := HB.out.size; have := b3'.size; omega))
end Go.Proofs.YtjfikkjaifdkiaaGreatDoor

namespace Go.Proofs.YtjfikkjaifdkiaaGreatDoor
open Go.RowKit

/-- The same expansions, as they read. -/
def sameO (a b : Ex.St) : Bool := a.outL == b.outL && a.reads == b.reads && a.notes == b.notes && a.used == b.used
def Small (E : Ex.St) : Prop := E.outL.length ≤ 1000000 ∧ E.reads.length ≤ 1000000 ∧ E.notes.length ≤ 1000000

set_option maxRecDepth 20000 in
set_option maxHeartbeats 4000000 in
/-- 'Same': the same? -/
theorem same8_any (va vb : Value) (Ea Eb : Ex.St) (w : World) (ha : RdO w va Ea) (hb : RdO w vb Eb) (sa : Small Ea) (sb : Small Eb) :
    Calls Tryz.prog 9 #[va, vb] w fun e w' => e = .returned (.bool (sameO Ea Eb)) ∧ Below w.heap.size w w' := by
  obtain ⟨vL, vR, vN, rfl, h1, h2, h3⟩ := ha
  obtain ⟨uL, uR, uN, rfl, k1, k2, k3⟩ := hb
  obtain ⟨aL, cL, rfl⟩ := h1.shape
  obtain ⟨aR, cR, rfl⟩ := Rd.shape h2
  obtain ⟨aN, cN, rfl⟩ := h3.shape
  obtain ⟨bL, dL, rfl⟩ := k1.shape
  obtain ⟨bR, dR, rfl⟩ := Rd.shape k2
  obtain ⟨bN, dN, rfl⟩ := k3.shape
  obtain ⟨nL, hnL⟩ : ∃ n, n = Ea.outL.length := ⟨_, rfl⟩
  obtain ⟨nR, hnR⟩ : ∃ n, n = Ea.reads.length := ⟨_, rfl⟩
  obtain ⟨nN, hnN⟩ : ∃ n, n = Ea.notes.length := ⟨_, rfl⟩
  obtain ⟨nU, hnU⟩ : ∃ n, n = Ea.used := ⟨_, rfl⟩
  obtain ⟨mL, hmL⟩ : ∃ n, n = Eb.outL.length := ⟨_, rfl⟩
  obtain ⟨mR, hmR⟩ : ∃ n, n = Eb.reads.length := ⟨_, rfl⟩
  obtain ⟨mN, hmN⟩ : ∃ n, n = Eb.notes.length := ⟨_, rfl⟩
  obtain ⟨mU, hmU⟩ : ∃ n, n = Eb.used := ⟨_, rfl⟩
  rw [← hnL] at h1 ⊢
  rw [← hnR] at h2 ⊢
  rw [← hnN] at h3 ⊢
  rw [← hmL] at k1 ⊢
  rw [← hmR] at k2 ⊢
  rw [← hmN] at k3 ⊢
  rw [← hnU, ← hmU]
  obtain ⟨q1, hq1⟩ : ∃ q, q = (Ea.outL == Eb.outL) := ⟨_, rfl⟩
  obtain ⟨q2, hq2⟩ : ∃ q, q = (Ea.reads == Eb.reads) := ⟨_, rfl⟩
  obtain ⟨q3, hq3⟩ : ∃ q, q = (Ea.notes == Eb.notes) := ⟨_, rfl⟩
  obtain ⟨q4, hq4⟩ : ∃ q, q = ((nU : Int) == (mU : Int)) := ⟨_, rfl⟩
  have hq9 : sameO Ea Eb = (q1 && q2 && q3 && q4) := by
    unfold sameO
    rw [← hq1, ← hq2, ← hq3, ← hnU, ← hmU, hq4]
    congr 1
    by_cases h : nU = mU
    · rw [h]; simp
    · have : ¬ (nU : Int) = (mU : Int) := by omega
      rw [beq_eq_false_iff_ne.2 h, beq_eq_false_iff_ne.2 this]
  rw [hq9]
  obtain ⟨W0, hW0⟩ : ∃ W0, W0 = w.alloc (.cells #[.slice aL nL cL, .slice aR nR cR, .slice aN nN cN, .int .i64 (nU : Int)] 37) := ⟨_, rfl⟩
  obtain ⟨W1, hW1⟩ : ∃ W1, W1 = W0.alloc (.cells #[.slice bL mL dL, .slice bR mR dR, .slice bN mN dN, .int .i64 (mU : Int)] 37) := ⟨_, rfl⟩
  have hs0 : W0.heap.size = w.heap.size + 1 := by rw [hW0]; simp
  have b0 : Below w.heap.size w W0 := by rw [hW0]; exact (Below.refl _ _).alloc (Nat.le_refl _) _
  have b1 : Below W0.heap.size W0 W1 := by rw [hW1]; exact (Below.refl _ _).alloc (Nat.le_refl _) _
  have r0 : Ro W0 w.heap.size 37 [.slice aL nL cL, .slice aR nR cR, .slice aN nN cN, .int .i64 (nU : Int)] := by rw [hW0]; exact heap_alloc_new w _
  have r1 : Ro W1 (w.heap.size + 1) 37 [.slice bL mL dL, .slice bR mR dR, .slice bN mN dN, .int .i64 (mU : Int)] := by rw [hW1, ← hs0]; exact heap_alloc_new W0 _
  have r0 := r0.kw (Kw.of_below b1) (by omega)
  have b01 : Below w.heap.size w W1 := b0.trans (b1.mono b0.size)
  have HC : Hid (∀ W', Below W1.heap.size W1 W' → (W'.cell? ⟨w.heap.size, 0, none⟩ = some (.slice aL nL cL) ∧ W'.cell? ⟨w.heap.size, 1, none⟩ = some (.slice aR nR cR) ∧ W'.cell? ⟨w.heap.size, 2, none⟩ = some (.slice aN nN cN) ∧ W'.cell? ⟨w.heap.size, 3, none⟩ = some (.int .i64 (nU : Int))) ∧
      W'.cell? ⟨w.heap.size + 1, 0, none⟩ = some (.slice bL mL dL) ∧ W'.cell? ⟨w.heap.size + 1, 1, none⟩ = some (.slice bR mR dR) ∧ W'.cell? ⟨w.heap.size + 1, 2, none⟩ = some (.slice bN mN dN) ∧ W'.cell? ⟨w.heap.size + 1, 3, none⟩ = some (.int .i64 (mU : Int))) := Lib.hid fun W' hb => by
    have h9 := r0.kw (Kw.of_below hb) (by have := r0.lt; omega)
    have h8 := r1.kw (Kw.of_below hb) (by have := r1.lt; omega)
    exact ⟨⟨h9.cell (i := 0) rfl, h9.cell (i := 1) rfl, h9.cell (i := 2) rfl, h9.cell (i := 3) rfl⟩, h8.cell (i := 0) rfl, h8.cell (i := 1) rfl, h8.cell (i := 2) rfl, h8.cell (i := 3) rfl⟩
  have HS1 : Hid (∀ W', Below W1.heap.size W1 W' → Calls Tryz.prog 23 #[.slice aL nL cL, .slice bL mL dL] W' fun e w' => e = .returned (.bool q1) ∧ Below W'.heap.size W' w') := Lib.hid fun W' hb => by
    rw [hq1]
    exact same_any _ _ Ea.outL Eb.outL W' (by rw [hnL] at h1 ⊢; exact (h1.below' b01).below' hb) (by rw [hmL] at k1 ⊢; exact (k1.below' b01).below' hb) (by have := sa.1; omega) (by have := sb.1; omega)
  have HS2 : Hid (∀ W', Below W1.heap.size W1 W' → Calls Tryz.prog 24 #[.slice aR nR cR, .slice bR mR dR] W' fun e w' => e = .returned (.bool q2) ∧ Below W'.heap.size W' w') := Lib.hid fun W' hb => by
    rw [hq2]
    exact words_any _ _ Ea.reads Eb.reads W' (by rw [hnR] at h2 ⊢; exact Rd.below' (Rd.below' h2 b01) hb) (by rw [hmR] at k2 ⊢; exact Rd.below' (Rd.below' k2 b01) hb) (by have := sa.2.1; omega) (by have := sb.2.1; omega)
  have HS3 : Hid (∀ W', Below W1.heap.size W1 W' → Calls Tryz.prog 25 #[.slice aN nN cN, .slice bN mN dN] W' fun e w' => e = .returned (.bool q3) ∧ Below W'.heap.size W' w') := Lib.hid fun W' hb => by
    rw [hq3]
    exact notes_any _ _ Ea.notes Eb.notes W' (by rw [hnN] at h3 ⊢; exact (h3.below' b01).below' hb) (by rw [hmN] at k3 ⊢; exact (k3.below' b01).below' hb) (by have := sa.2.2; omega) (by have := sb.2.2; omega)
  have HB := Lib.hid b01
  have HW0 := Lib.hid hW0
  have HW1 := Lib.hid hW1
  have HS0 := Lib.hid hs0
  have HQ4 := Lib.hid hq4
  clear h1 h2 h3 k1 k2 k3 hnL hnR hnN hnU hmL hmR hmN hmU hW0 hW1 b0 b1 r0 r1 b01 hs0 hq1 hq2 hq3 hq4 hq9 sa sb
  obtain ⟨⟨c0, c1, c2, c3⟩, d0, d1, d2, d3⟩ := HC.out W1 (Below.refl _ _)
  go_enter Tryz.func9, Tryz.ntmps9
  go_upto_region 1 with fail
  rw [← HW0.out]
  rw [← HW1.out]
  cases q1
  · go_wp2_with (go_at_call 23; (with_reducible refine (HS1.out _ (Below.refl _ _)).mono ?_); rintro e w2 ⟨rfl, b2⟩)
    go_ret
    exact ⟨rfl, HB.out.trans (b2.mono HB.out.size)⟩
  · cases q2
    · go_wp2_with (first
        | (go_at_call 23; (with_reducible refine (HS1.out _ (Below.refl _ _)).mono ?_); rintro e w2 ⟨rfl, b2⟩; obtain ⟨⟨c0, c1, c2, c3⟩, d0, d1, d2, d3⟩ := HC.out w2 b2)
        | (go_at_call 24; (with_reducible refine (HS2.out _ b2).mono ?_); rintro e w3 ⟨rfl, b3⟩)
        | fail)
      go_ret
      exact ⟨rfl, HB.out.trans ((b2.trans (b3.mono b2.size)).mono HB.out.size)⟩
    · cases q3
      · go_wp2_with (first
          | (go_at_call 23; (with_reducible refine (HS1.out _ (Below.refl _ _)).mono ?_); rintro e w2 ⟨rfl, b2⟩; obtain ⟨⟨c0, c1, c2, c3⟩, d0, d1, d2, d3⟩ := HC.out w2 b2)
          | (go_at_call 24; (with_reducible refine (HS2.out _ b2).mono ?_); rintro e w3 ⟨rfl, b3⟩; have b23 := b2.trans (b3.mono b2.size); obtain ⟨⟨c0, c1, c2, c3⟩, d0, d1, d2, d3⟩ := HC.out w3 b23)
          | (go_at_call 25; (with_reducible refine (HS3.out _ b23).mono ?_); rintro e w4 ⟨rfl, b4⟩)
          | fail)
        go_ret
        exact ⟨rfl, HB.out.trans ((b23.trans (b4.mono b23.size)).mono HB.out.size)⟩
      · go_wp2_with (first
          | (go_at_call 23; (with_reducible refine (HS1.out _ (Below.refl _ _)).mono ?_); rintro e w2 ⟨rfl, b2⟩; obtain ⟨⟨c0, c1, c2, c3⟩, d0, d1, d2, d3⟩ := HC.out w2 b2)
          | (go_at_call 24; (with_reducible refine (HS2.out _ b2).mono ?_); rintro e w3 ⟨rfl, b3⟩; have b23 := b2.trans (b3.mono b2.size); obtain ⟨⟨c0, c1, c2, c3⟩, d0, d1, d2, d3⟩ := HC.out w3 b23)
          | (go_at_call 25; (with_reducible refine (HS3.out _ b23).mono ?_); rintro e w4 ⟨rfl, b4⟩; have b24 := b23.trans (b4.mono b23.size); obtain ⟨⟨c0, c1, c2, c3⟩, d0, d1, d2, d3⟩ := HC.out w4 b24)
          | fail)
        go_ret
        refine ⟨?_, HB.out.trans (b24.mono HB.out.size)⟩
        rw [HQ4.out]
        simp

theorem rf_one (w : World) (n s : List UInt8) : Rf (w.alloc (.cells #[.string (S n), .string (S s)] 45)) (.slice (some ⟨w.heap.size, 0, none⟩) 1 1) [(n, s)] := by
  refine ⟨rfl, .inr ⟨w.heap.size, 0, 1, rfl, fun _ => by simp, fun j u hj => ?_, Nat.le_refl _⟩⟩
  rw [Nat.zero_add, row_cell (heap_alloc_new w _)]
  simpa [fcs, fc] using hj

set_option maxRecDepth 20000 in
set_option maxHeartbeats 4000000 in
/-- 'of': one file's expansion. -/
theorem of8_any (s : List UInt8) (fuel : Nat) (w : World) (hs : s.length ≤ 1000) (hfu : fuel ≤ 100) (hgl : Gl w) (hw0 : 0 < w.heap.size) {zf : Int} (ef : zf = (fuel : Int)) :
    Calls Tryz.prog 27 #[.string (S s), .int .i64 zf] w fun e w' => ∃ o, e = .returned o ∧ RdO w' o (Ex.expand [([109], s)] [109] fuel 100) ∧ Below w.heap.size w w' := by
  subst ef
  obtain ⟨W0, hW0⟩ : ∃ W0, W0 = w.alloc (.cells #[.slice none 0 0, .slice none 0 0, .slice none 0 0, .int .i64 0] 31) := ⟨_, rfl⟩
  have b0 : Below w.heap.size w W0 := by rw [hW0]; exact (Below.refl _ _).alloc (Nat.le_refl _) _
  have hs0 : W0.heap.size = w.heap.size + 1 := by rw [hW0]; simp
  have r0 : Ro W0 w.heap.size 31 [.slice none 0 0, .slice none 0 0, .slice none 0 0, .int .i64 0] := by rw [hW0]; exact heap_alloc_new w _
  obtain ⟨E, hE⟩ : ∃ E, E = Ex.expand [([109], s)] [109] fuel 100 := ⟨_, rfl⟩
  rw [← hE]
  have HE9 : Hid (∀ (W : World), Below w.heap.size w W → Calls Tryz.prog 7 #[.slice (some ⟨W.heap.size, 0, none⟩) 1 1, .string (S [109]), .int .i64 (fuel : Int), .int .i64 100] (W.alloc (.cells #[.string (S [109]), .string (S s)] 45)) fun e w' => ∃ o, e = .returned (.tuple #[o, .int .i64 0]) ∧ RdO w' o E ∧ Below (W.heap.size + 1) (W.alloc (.cells #[.string (S [109]), .string (S s)] 45)) w' ∧ FrO (W.heap.size + 1) o) := Lib.hid fun W hb => by
    rw [hE]
    have h9 := exp9_any (.slice (some ⟨W.heap.size, 0, none⟩) 1 1) [([109], s)] [109] fuel 100 (W.alloc (.cells #[.string (S [109]), .string (S s)] 45)) (rf_one W [109] s) (by unfold Fi.Ord Sorted; exact List.pairwise_singleton _ _) (by simp) (fun f hf => by rw [List.mem_singleton.1 hf]; exact hs) hfu (by decide) (hgl.below hw0 (hb.alloc hb.size _)) (Nat.lt_of_lt_of_le hw0 (hb.alloc hb.size _).size) rfl rfl
    exact h9.mono fun e w' ⟨o, a1, a2, a3, a4⟩ => ⟨o, a1, a2, a3.mono (by simp), by simpa using a4⟩
  have HB0 := Lib.hid b0
  have HR0 := Lib.hid r0
  have HS0 := Lib.hid hs0
  have HW0 := Lib.hid hW0
  clear hE hW0 b0 r0 hs0 hgl
  go_enter Tryz.func27, Tryz.ntmps27
  simp only [S_lit]
  go_upto_region 1 with fail
  rw [← HW0.out]
  go_upto_region 2 with (go_at_call 7; (with_reducible refine (HE9.out W0 HB0.out).mono ?_); rintro e w2 ⟨o, rfl, ro, b2, fo⟩; have HFO := Lib.hid fo; clear fo; obtain ⟨vL, vR, vN, rfl, h1, h2, h3⟩ := ro; obtain ⟨aL, cL, rfl⟩ := h1.shape; obtain ⟨aR, cR, rfl⟩ := Rd.shape h2; obtain ⟨aN, cN, rfl⟩ := h3.shape; have HH := Lib.hid (And.intro h1 (And.intro h2 h3)); have HB2 := Lib.hid b2; clear h1 h2 h3 b2)
  obtain ⟨nL, hnL⟩ : ∃ n, n = E.outL.length := ⟨_, rfl⟩
  obtain ⟨nR, hnR⟩ : ∃ n, n = E.reads.length := ⟨_, rfl⟩
  obtain ⟨nN, hnN⟩ : ∃ n, n = E.notes.length := ⟨_, rfl⟩
  obtain ⟨nU, hnU⟩ : ∃ n, n = E.used := ⟨_, rfl⟩
  rw [← hnL, ← hnR, ← hnN, ← hnU]
  rw [← hnL, ← hnR, ← hnN] at HH
  have HNN := Lib.hid (And.intro hnL (And.intro hnR (And.intro hnN hnU)))
  obtain ⟨W3, hW3⟩ : ∃ W3, W3 = w2.alloc (.cells #[.slice aL nL cL, .slice aR nR cR, .slice aN nN cN, .int .i64 (nU : Int)] 31) := ⟨_, rfl⟩
  rw [← hW3]
  have b3 : Below w2.heap.size w2 W3 := by rw [hW3]; exact (Below.refl _ _).alloc (Nat.le_refl _) _
  have r3 : Ro W3 w2.heap.size 31 [.slice aL nL cL, .slice aR nR cR, .slice aN nN cN, .int .i64 (nU : Int)] := by rw [hW3]; exact heap_alloc_new w2 _
  have hsz : w.heap.size < w2.heap.size := by
    have h1 := HB2.out.size
    have h2 := HS0.out
    have h3 : (W0.alloc (.cells #[.string (S [109]), .string (S s)] 45)).heap.size = W0.heap.size + 1 := by simp
    omega
  have r4 : Ro W3 w.heap.size 31 [.slice none 0 0, .slice none 0 0, .slice none 0 0, .int .i64 0] := by
    refine (HR0.out.kw (Kw.of_below ((Below.refl W0.heap.size W0).alloc (Nat.le_refl _) (.cells #[.string (S [109]), .string (S s)] 45))) (by have := HS0.out; omega)).kw (Kw.of_below HB2.out) (by have := HS0.out; omega) |>.kw (Kw.of_below b3) (by omega)
  have x0 := r3.cell (i := 0) rfl
  have x1 := r3.cell (i := 1) rfl
  have x2 := r3.cell (i := 2) rfl
  have x3 := r3.cell (i := 3) rfl
  have z0 := r4.cell (i := 0) rfl
  have z1 := r4.cell (i := 1) rfl
  have z2 := r4.cell (i := 2) rfl
  have z3 := r4.cell (i := 3) rfl
  have f0 := r4.free 0
  have f1 := r4.free 1
  have f2 := r4.free 2
  have f3 := r4.free 3
  have HR4 := Lib.hid r4
  have HB3 := Lib.hid b3
  have HSZ := Lib.hid hsz
  clear hnL hnR hnN hnU hW3 b3 r3 r4 hsz
  go_wp2_with fail
  (try simp only [Exit.inBlock, Exit.then])
  obtain ⟨WF, hWF⟩ : ∃ WF, WF = (((W3.setCell ⟨w.heap.size, 0, none⟩ (.slice aL nL cL)).setCell ⟨w.heap.size, 1, none⟩ (.slice aR nR cR)).setCell ⟨w.heap.size, 2, none⟩ (.slice aN nN cN)).setCell ⟨w.heap.size, 3, none⟩ (.int .i64 (nU : Int)) := ⟨_, rfl⟩
  rw [← hWF]
  have hrF : Ro WF w.heap.size 31 [.slice aL nL cL, .slice aR nR cR, .slice aN nN cN, .int .i64 (nU : Int)] := by rw [hWF]; exact (((HR4.out.set 0 _).set 1 _).set 2 _).set 3 _
  have hkF : Kw W3 WF fun j => j = w.heap.size := by
    rw [hWF]
    exact (((Kw.set _ _ 0 _).trans (Kw.set _ _ 1 _) fun _ _ e => e).trans (Kw.set _ _ 2 _) fun _ _ e => e).trans (Kw.set _ _ 3 _) fun _ _ e => e
  have g0 := hrF.cell (i := 0) rfl
  have g1 := hrF.cell (i := 1) rfl
  have g2 := hrF.cell (i := 2) rfl
  have g3 := hrF.cell (i := 3) rfl
  have hap : ∀ {k n : Nat} {v : Value} {cs : List Value}, Rd w2 k v n cs → (0 < n → ∀ b, v.ownBlock = some b → b ≠ w.heap.size) → Rd WF k v n cs := fun hr h9 => Rd.keep (Rd.below' hr HB3.out) hkF fun h0 b hb e => h9 h0 b hb e
  refine bodyPost_ret (v := .agg #[.slice aL nL cL, .slice aR nR cR, .slice aN nN cN, .int .i64 (nU : Int)]) ?_ rfl ⟨_, rfl, ⟨.slice aL nL cL, .slice aR nR cR, .slice aN nN cN, by rw [HNN.out.2.2.2], hap HH.out.1 ?_, hap HH.out.2.1 ?_, hap HH.out.2.2 ?_⟩, ?_⟩
  · rw [results_cell1 rfl]
    clear hWF
    go_simp
  · intro _ b hb e
    rw [HNN.out.1] at hb
    have := (HFO.out _ _ _ _ rfl).1 b hb
    have := HS0.out
    omega
  · intro _ b hb e
    rw [HNN.out.2.1] at hb
    have := (HFO.out _ _ _ _ rfl).2.1 b hb
    have := HS0.out
    omega
  · intro _ b hb e
    rw [HNN.out.2.2.1] at hb
    have := (HFO.out _ _ _ _ rfl).2.2 b hb
    have := HS0.out
    omega
  · have h1 := HB0.out
    have h2 : Below w.heap.size W0 w2 := (((Below.refl W0.heap.size W0).alloc (Nat.le_refl _) (.cells #[.string (S [109]), .string (S s)] 45)).mono h1.size).trans (HB2.out.mono (by have := HS0.out; omega))
    exact ((h1.trans h2).trans (HB3.out.mono (Nat.le_of_lt HSZ.out))).trans (hkF.below (fun j e => by omega) (by have := HB3.out.size; have := HSZ.out; omega))
end Go.Proofs.YtjfikkjaifdkiaaGreatDoor

namespace Go.Proofs.YtjfikkjaifdkiaaGreatDoor
abbrev xA : List UInt8 := [92, 100, 101, 102, 123, 120, 125, 123, 49, 125, 123, 60, 35, 49, 62, 125, 92, 120, 123, 97, 125]
abbrev xB : List UInt8 := [92, 100, 101, 102, 123, 120, 125, 123, 48, 125, 123, 92, 120, 125, 92, 120]
abbrev xC : List UInt8 := [92, 105, 110, 99, 108, 117, 100, 101, 123, 110, 125, 92, 100, 101, 102, 123, 49, 125, 123, 48, 125, 123, 125, 92, 105, 102, 100, 101, 102, 123, 120, 125, 123, 97, 125, 123, 98, 125]
def exA : Ex.St := Ex.expand [([109], xA)] [109] 9 100
def exB : Ex.St := Ex.expand [([109], xB)] [109] 5 100
def exC : Ex.St := Ex.expand [([109], xC)] [109] 5 100
def exDD : Ex.St := Ex.expand [] [109] 0 0
theorem exA_is : exA.outL = [(1, [60]), (1, [97]), (1, [62])] ∧ exA.used = 1 ∧ exA.notes = [] ∧ exA.reads = [[109]] := by unfold exA; decide +kernel
theorem exB_is : exB.outL = [] ∧ exB.used = 5 ∧ exB.notes = [(9, [120])] := by unfold exB; decide +kernel
theorem exC_is : exC.outL = [(1, [98])] ∧ exC.notes = [(4, [110]), (2, [49])] ∧ exC.reads = [[109], [110]] := by unfold exC; decide +kernel
theorem exD_is : exDD.outL = [] ∧ exDD.notes = [(4, [109])] := by unfold exDD; decide +kernel
theorem exA_text : Lx.text [(1, [60]), (1, [97]), (1, [62])] = [60, 97, 62] := by decide +kernel
end Go.Proofs.YtjfikkjaifdkiaaGreatDoor

namespace Go.Proofs.YtjfikkjaifdkiaaGreatDoor
open Go.RowKit

/-- Which kind a token is of. -/
theorem seven (k : Int) : (k == 1) = true ∨ ((k == 1) = false ∧ (k == 2) = true) ∨ ((k == 1) = false ∧ (k == 2) = false ∧ (k == 3) = true) ∨ ((k == 1) = false ∧ (k == 2) = false ∧ (k == 3) = false ∧ (k == 4) = true) ∨
    ((k == 1) = false ∧ (k == 2) = false ∧ (k == 3) = false ∧ (k == 4) = false ∧ (k == 5) = true) ∨ ((k == 1) = false ∧ (k == 2) = false ∧ (k == 3) = false ∧ (k == 4) = false ∧ (k == 5) = false ∧ (k == 6) = true) ∨
    ((k == 1) = false ∧ (k == 2) = false ∧ (k == 3) = false ∧ (k == 4) = false ∧ (k == 5) = false ∧ (k == 6) = false ∧ (k == 7) = true) ∨
    ((k == 1) = false ∧ (k == 2) = false ∧ (k == 3) = false ∧ (k == 4) = false ∧ (k == 5) = false ∧ (k == 6) = false ∧ (k == 7) = false) := by
  cases h1 : (k == 1) <;> cases h2 : (k == 2) <;> cases h3 : (k == 3) <;> cases h4 : (k == 4) <;> cases h5 : (k == 5) <;> cases h6 : (k == 6) <;> cases h7 : (k == 7) <;> simp

theorem special_any (c : UInt8) : ([92, 123, 125, 37, 35] : List UInt8).any (fun d => d == c) = (c == 92 || c == 123 || c == 125 || c == 37 || c == 35) := by
  have e : ∀ d : UInt8, (d == c) = (c == d) := fun d => by rw [Bool.eq_iff_iff, beq_iff_eq, beq_iff_eq]; exact eq_comm
  simp only [List.any_cons, List.any_nil, Bool.or_false, Bool.or_assoc, e 92, e 123, e 125, e 37, e 35]
theorem special_index (c : UInt8) : decide (0 ≤ Lib.indexByte [92, 123, 125, 37, 35] c) = (c == 92 || c == 123 || c == 125 || c == 37 || c == 35) := by
  rw [Bool.eq_iff_iff]
  by_cases h1 : c = 92
  · subst h1; decide
  by_cases h2 : c = 123
  · subst h2; decide
  by_cases h3 : c = 125
  · subst h3; decide
  by_cases h4 : c = 37
  · subst h4; decide
  by_cases h5 : c = 35
  · subst h5; decide
  have e : ∀ d : UInt8, c ≠ d → (d == c) = false := fun d h => by simpa using fun e => h e.symm
  simp [Lib.indexByte, e _ h1, e _ h2, e _ h3, e _ h4, e _ h5, h1, h2, h3, h4, h5]

theorem safe_snoc (a : List UInt8) (c : UInt8) : Lx.safe (a ++ [c]) = Lx.safe a ++ (if Lx.special c then [92, c] else [c]) := by simp [Lx.safe]
theorem safe_len (a : List UInt8) : (Lx.safe a).length ≤ 2 * a.length := by
  induction a with
  | nil => simp [Lx.safe]
  | cons c r ih =>
    have e : Lx.safe (c :: r) = (if Lx.special c then [92, c] else [c]) ++ Lx.safe r := rfl
    rw [e, List.length_append, List.length_cons]
    split <;> simp only [List.length_cons, List.length_nil] <;> omega

set_option maxHeartbeats 800000 in
/-- 'safe'. -/
theorem safe_any (l : List UInt8) (hl : l.length ≤ 1000000000) (w : World) :
    Calls Tryz.prog 58 #[.string (S l)] w fun e w' => e = .returned (.string (S (Lx.safe l))) ∧ Below w.heap.size w w' := by
  go_enter Tryz.func58, Tryz.ntmps58
  go_wp2_with fail
  simp only [S_lit]
  go_loopw [3, 7] (fun v i wr => ∃ j : Nat, j ≤ l.length ∧ i = .int .i64 j ∧ wr.ownsRow w.heap.size 5 1 v (Lx.safe (l.take j)).length (Lib.byteCells (Lx.safe (l.take j))) ∧ Below w.heap.size w wr) (fun _ i _ => l.length - (intOf i).toNat)
  case atStart => exact ⟨0, by omega, rfl, World.ownsRow_nil _ _ _ _, Below.refl _ _⟩
  case round =>
    obtain ⟨j, hj, rfl, hown, hbw⟩ := hrel
    have hsl := safe_len (l.take j)
    have htl : (l.take j).length ≤ j := List.length_take_le _ _
    have hsz := hbw.size
    by_cases hlt : j < l.length
    · have HT := Lib.hid (take_snoc l j hlt)
      have HS : Hid (Lx.special l[j] = (Lx.blank l[j] || decide (0 ≤ Lib.indexByte [92, 123, 125, 37, 35] l[j]))) := by
        show _ = _; rw [special_index, Lx.special]; simp [Bool.or_assoc]
      have e8 : (Int.toNat (l[j].toNat : Int)).toUInt8 = l[j] := by simp
      have one2 : ∀ (v2 : Value) (w2 : World), w2.ownsRow w.heap.size 5 1 v2 ((Lx.safe (l.take j)).length + 1) (Lib.byteCells (Lx.safe (l.take j)) ++ [.int .u8 l[j].toNat]) → Lx.special l[j] = false →
          Hid (w2.ownsRow w.heap.size 5 1 v2 (Lx.safe (l.take (j + 1))).length (Lib.byteCells (Lx.safe (l.take (j + 1))))) := fun v2 w2 h hs => by
        show World.ownsRow _ _ _ _ _ _ _
        rw [HT.out, safe_snoc, hs]; simpa [Lib.byteCells] using h
      have two2 : ∀ (v2 : Value) (w2 : World), w2.ownsRow w.heap.size 5 1 v2 ((Lx.safe (l.take j)).length + 1 + 1) (Lib.byteCells (Lx.safe (l.take j)) ++ [.int .u8 92] ++ [.int .u8 l[j].toNat]) → Lx.special l[j] = true →
          Hid (w2.ownsRow w.heap.size 5 1 v2 (Lx.safe (l.take (j + 1))).length (Lib.byteCells (Lx.safe (l.take (j + 1))))) := fun v2 w2 h hs => by
        show World.ownsRow _ _ _ _ _ _ _
        rw [HT.out, safe_snoc, hs]; simpa [Lib.byteCells] using h
      have ONE := Lib.hid one2
      have TWO := Lib.hid two2
      clear one2 two2
      have E8 := Lib.hid e8
      clear e8
      cases hb : Lx.blank l[j]
      · by_cases hi : 0 ≤ Lib.indexByte [92, 123, 125, 37, 35] l[j]
        · have HP : Hid (Lx.special l[j] = true) := by show _ = _; rw [HS.out, hb]; simpa using hi
          (go_wp2_with (first | (go_at_call 67; (with_reducible refine (blank_any _ _).mono ?_); rintro e w' ⟨rfl, rfl⟩) | (go_at_call 94; (with_reducible refine (indexByte_any _ _ _).mono ?_); rintro e w' ⟨rfl, rfl⟩; rw [E8.out]) | (at_builtin; refine wp_app tyByte rfl (.tmp 21) (.tmp 22) rfl w.heap.size hown rfl rfl (by simp) rfl byte_one (by omega) (by omega) (by omega) ?_; intro v2 w2 hown2 hb2 _; have hsz2 := hb2.size) | (at_builtin; refine wp_app tyByte rfl (.tmp 24) (.tmp 28) rfl w.heap.size hown2 rfl rfl (by simp) rfl byte_one (by omega) (by omega) (by omega) ?_; intro v3 w3 hown3 hb3 _)); go_roundw; (case rel => exact ⟨j + 1, by omega, by go_num, (TWO.out _ _ hown3 HP.out).out, (hbw.trans hb2).trans hb3⟩); (case measure => (simp [intOf]; omega)))
        · have HP : Hid (Lx.special l[j] = false) := by show _ = _; rw [HS.out, hb]; simpa using hi
          have hi' : Lib.indexByte [92, 123, 125, 37, 35] l[j] < 0 := by omega
          clear hi
          go_wp2_with (first | (go_at_call 67; (with_reducible refine (blank_any _ _).mono ?_); rintro e w' ⟨rfl, rfl⟩) | (go_at_call 94; (with_reducible refine (indexByte_any _ _ _).mono ?_); rintro e w' ⟨rfl, rfl⟩; rw [E8.out]) | (at_builtin; refine wp_app tyByte rfl (.tmp 24) (.tmp 28) rfl w.heap.size hown rfl rfl (by simp) rfl byte_one (by omega) (by omega) (by omega) ?_; intro v2 w2 hown2 hb2 _))
          go_roundw
          case rel => exact ⟨j + 1, by omega, by go_num, (ONE.out _ _ hown2 HP.out).out, hbw.trans hb2⟩
          case measure => simp [intOf]; omega
      · have HP : Hid (Lx.special l[j] = true) := by show _ = _; rw [HS.out, hb]; rfl
        (go_wp2_with (first | (go_at_call 67; (with_reducible refine (blank_any _ _).mono ?_); rintro e w' ⟨rfl, rfl⟩) | (go_at_call 94; (with_reducible refine (indexByte_any _ _ _).mono ?_); rintro e w' ⟨rfl, rfl⟩; rw [E8.out]) | (at_builtin; refine wp_app tyByte rfl (.tmp 21) (.tmp 22) rfl w.heap.size hown rfl rfl (by simp) rfl byte_one (by omega) (by omega) (by omega) ?_; intro v2 w2 hown2 hb2 _; have hsz2 := hb2.size) | (at_builtin; refine wp_app tyByte rfl (.tmp 24) (.tmp 28) rfl w.heap.size hown2 rfl rfl (by simp) rfl byte_one (by omega) (by omega) (by omega) ?_; intro v3 w3 hown3 hb3 _)); go_roundw; (case rel => exact ⟨j + 1, by omega, by go_num, (TWO.out _ _ hown3 HP.out).out, (hbw.trans hb2).trans hb3⟩); (case measure => (simp [intOf]; omega)))
    · obtain rfl : j = l.length := by omega
      rw [List.take_length] at *
      have hcv := conv_bytes (own_rd hown)
      go_wp2_with fail
      go_ret
      exact ⟨rfl, hbw⟩

theorem text_snoc (a : List Lx.Tok) (t : Lx.Tok) : Lx.text (a ++ [t]) = Lx.text a ++ Lx.textOf t := by simp [Lx.text]
theorem textOf_len (t : Lx.Tok) (M : Nat) (h : t.2.length ≤ M) : (Lx.textOf t).length ≤ 2 * M + 2 := by
  have := safe_len t.2
  unfold Lx.textOf
  (repeat' split) <;> first | omega | (simp only [List.length_cons, List.length_nil]; omega)
theorem text_len (l : List Lx.Tok) (M : Nat) (h : ∀ t ∈ l, t.2.length ≤ M) : (Lx.text l).length ≤ l.length * (2 * M + 2) := by
  induction l with
  | nil => simp [Lx.text]
  | cons t r ih =>
    have e : Lx.text (t :: r) = Lx.textOf t ++ Lx.text r := rfl
    have h1 := textOf_len t M (h t (List.mem_cons_self ..))
    have h2 := ih fun x hx => h x (List.mem_cons_of_mem _ hx)
    rw [e, List.length_append, List.length_cons, Nat.add_mul]
    omega

/-- A builder of the call's own stays as it is while nothing that is there turns. -/
theorem builder_below {w w' : World} {T e B b : Nat} {bs : List Value} (h : Lib.IsBuilder T e B b bs w) (hb : Below w.heap.size w w') : Lib.IsBuilder T e B b bs w' := by
  have key : ∀ p, Lib.BuilderAt T e B b p bs w → Lib.BuilderAt T e B b p bs w' := by
    rintro p ⟨hB, v, hbk, hown, hne⟩
    exact ⟨hB, v, by rw [hb.block b (pair_lt hbk)]; exact hbk, own_below hown (own_under hown) hb, hne⟩
  rcases h with h | h
  · exact .inl (key _ h)
  · exact .inr (key _ h)

set_option maxHeartbeats 3200000 in
/-- 'Text'. -/
theorem text_any (v : Value) (l : List Lx.Tok) (w : World) (hl : Rt w v l) (hlen : l.length ≤ 100000) (hs : ∀ t ∈ l, t.2.length ≤ 100000) :
    Calls Tryz.prog 28 #[v] w fun e w' => e = .returned (.string (S (Lx.text l))) ∧ Below w.heap.size w w' := by
  obtain ⟨a0, c0, rfl⟩ := hl.shape
  go_enter Tryz.func28, Tryz.ntmps28
  go_wp2_with fail
  simp only [S_lit]
  go_loopw [8] (fun i wr => ∃ j : Nat, j ≤ l.length ∧ i = .int .i64 j ∧ Lib.IsBuilder 120 5 w.heap.size w.heap.size (Lib.byteCells (Lx.text (l.take j))) wr ∧ Below w.heap.size w wr) (fun i _ => l.length - (intOf i).toNat)
  case atStart => exact ⟨0, by omega, rfl, .inl ⟨Nat.le_refl _, _, heap_alloc_new _ _, World.ownsRow_nil _ _ _ _, by simp [Value.ownBlock]⟩, (Below.refl _ _).alloc (Nat.le_refl _) _⟩
  case round =>
    obtain ⟨j, hj, rfl, hB, hbw⟩ := hrel
    have hsz := hbw.size
    by_cases hlt : j < l.length
    · have htl : (Lx.text (l.take j)).length ≤ 100000 * 200002 := by
        have := text_len (l.take j) 100000 fun t ht => hs t (List.mem_of_mem_take ht)
        have h2 : (l.take j).length ≤ 100000 := by simp; omega
        exact Nat.le_trans this (Nat.mul_le_mul_right _ h2)
      have hs1 := hs _ (List.getElem_mem hlt)
      have hsl := safe_len l[j].2
      obtain ⟨b1, o1, rfl, c10, c11⟩ := (hl.below' hbw).at hlt
      have HT := Lib.hid (take_snoc l j hlt)
      have hbl := Lib.byteCells_length (Lx.text (l.take j))
      have HBL := Lib.hid hbl
      have hal := (Below.refl wr.heap.size wr).alloc (Nat.le_refl _) (.cells #[.int .i64 l[j].1, .string (S l[j].2)] 64)
      have HAL := Lib.hid hal
      have hB2 := builder_below hB hal
      have hbal := hbw.trans (hal.mono hsz)
      have hclose : ∀ (x : List UInt8) (W : World), Lx.textOf l[j] = x → Lib.BuilderAt 120 5 w.heap.size w.heap.size (.pointer (some ⟨w.heap.size, 0, none⟩)) (Lib.byteCells (Lx.text (l.take j)) ++ Lib.byteCells x) W →
          Lib.IsBuilder 120 5 w.heap.size w.heap.size (Lib.byteCells (Lx.text (l.take (j + 1)))) W := fun x W hx h => by
        rw [HT.out, text_snoc, hx, Lib.byteCells_append]; exact .inr h
      have HCL := Lib.hid hclose
      have HBA := Lib.hid hbal
      clear hl hs hbl hal hclose hbal
      rcases seven l[j].1 with t1 | ⟨t1, t2⟩ | ⟨t1, t2, t3⟩ | ⟨t1, t2, t3, t4⟩ | ⟨t1, t2, t3, t4, t5⟩ | ⟨t1, t2, t3, t4, t5, t6⟩ | ⟨t1, t2, t3, t4, t5, t6, t7⟩ | ⟨t1, t2, t3, t4, t5, t6, t7⟩
      · go_wp2_with (first | (go_at_call 58; (with_reducible refine (safe_any _ (by omega) _).mono ?_); rintro e w1 ⟨rfl, hb1⟩; have hB3 := builder_below hB2 hb1; have hsz1 := hb1.size; simp at hsz1) | (go_at_call 57; (with_reducible refine (Builder_WriteString w.heap.size w.heap.size _ _ _ hB3 (by rw [HBL.out, S_size]; omega) (by omega)).mono ?_); rintro e w2 ⟨rfl, hB4, hb4⟩))
        go_roundw
        case rel => exact ⟨j + 1, by omega, by go_num, HCL.out _ _ (by simp only [Lx.textOf, beq_iff_eq.1 t1]; rfl) hB4, (HBA.out.trans (hb1.mono (by simp; omega))).trans hb4⟩
        case measure => simp [intOf]; omega
      · go_wp2_with (first | (go_at_call 59; (with_reducible refine (Builder_WriteByte w.heap.size w.heap.size _ _ _ hB2 (by rw [HBL.out]; omega) (by simp; omega)).mono ?_); rintro e w2 ⟨rfl, hB4, hb4⟩))
        go_roundw
        case rel => exact ⟨j + 1, by omega, by go_num, HCL.out [32] _ (by simp only [Lx.textOf, beq_iff_eq.1 t2]; rfl) hB4, HBA.out.trans hb4⟩
        case measure => simp [intOf]; omega
      · go_wp2_with (first | (go_at_call 57; (with_reducible refine (Builder_WriteString w.heap.size w.heap.size _ _ _ hB2 (by rw [HBL.out, S_size]; simp; omega) (by simp; omega)).mono ?_); rintro e w2 ⟨rfl, hB4, hb4⟩))
        go_roundw
        case rel => exact ⟨j + 1, by omega, by go_num, HCL.out [10, 10] _ (by simp only [Lx.textOf, beq_iff_eq.1 t3]; rfl) hB4, HBA.out.trans hb4⟩
        case measure => simp [intOf]; omega
      · go_wp2_with (first | (go_at_call 57; (with_reducible refine (Builder_WriteString w.heap.size w.heap.size _ _ _ hB2 (by rw [HBL.out, S_size]; simp; omega) (by simp; omega)).mono ?_); rintro e w2 ⟨rfl, hB4, hb4⟩))
        go_roundw
        case rel => exact ⟨j + 1, by omega, by go_num, HCL.out (92 :: l[j].2) _ (by simp only [Lx.textOf, beq_iff_eq.1 t4]; rfl) hB4, HBA.out.trans hb4⟩
        case measure => simp [intOf]; omega
      · go_wp2_with (first | (go_at_call 59; (with_reducible refine (Builder_WriteByte w.heap.size w.heap.size _ _ _ hB2 (by rw [HBL.out]; omega) (by simp; omega)).mono ?_); rintro e w2 ⟨rfl, hB4, hb4⟩))
        go_roundw
        case rel => exact ⟨j + 1, by omega, by go_num, HCL.out [123] _ (by simp only [Lx.textOf, beq_iff_eq.1 t5]; rfl) hB4, HBA.out.trans hb4⟩
        case measure => simp [intOf]; omega
      · go_wp2_with (first | (go_at_call 59; (with_reducible refine (Builder_WriteByte w.heap.size w.heap.size _ _ _ hB2 (by rw [HBL.out]; omega) (by simp; omega)).mono ?_); rintro e w2 ⟨rfl, hB4, hb4⟩))
        go_roundw
        case rel => exact ⟨j + 1, by omega, by go_num, HCL.out [125] _ (by simp only [Lx.textOf, beq_iff_eq.1 t6]; rfl) hB4, HBA.out.trans hb4⟩
        case measure => simp [intOf]; omega
      · go_wp2_with (first | (go_at_call 57; (with_reducible refine (Builder_WriteString w.heap.size w.heap.size _ _ _ hB2 (by rw [HBL.out, S_size]; simp; omega) (by simp; omega)).mono ?_); rintro e w2 ⟨rfl, hB4, hb4⟩))
        go_roundw
        case rel => exact ⟨j + 1, by omega, by go_num, HCL.out (35 :: l[j].2) _ (by simp only [Lx.textOf, beq_iff_eq.1 t7]; rfl) hB4, HBA.out.trans hb4⟩
        case measure => simp [intOf]; omega
      · have hx : Hid (Lx.textOf l[j] = []) := by
          show _ = _
          simp only [beq_eq_false_iff_ne] at t1 t2 t3 t4 t5 t6 t7
          simp [Lx.textOf, *]
        go_wp2_with fail
        go_roundw
        case rel => exact ⟨j + 1, by omega, by go_num, (by rw [HT.out, text_snoc, hx.out, List.append_nil]; exact hB2), HBA.out⟩
        case measure => simp [intOf]; omega
    · obtain rfl : j = l.length := by omega
      rw [List.take_length] at *
      clear hl
      go_wp2_with (first | (go_at_call 60; (with_reducible refine (Builder_String_any w.heap.size w.heap.size _ _ hB (by omega)).mono ?_); rintro e w2 ⟨rfl, hb4⟩))
      go_ret
      exact ⟨rfl, hbw.trans hb4⟩

end Go.Proofs.YtjfikkjaifdkiaaGreatDoor

namespace Go.Proofs.YtjfikkjaifdkiaaGreatDoor
open Go.RowKit

theorem exB_more : exB.reads = [[109]] := by unfold exB; decide +kernel
theorem exC_more : exC.used = 1 := by unfold exC; decide +kernel
theorem exD_more : exDD.reads = [[109]] ∧ exDD.used = 0 := by unfold exDD; decide +kernel
/-- An expansion whose parts are known. -/
theorem shape9 {w : World} {o : Value} {E : Ex.St} (h : RdO w o E) {lo ln : List Lx.Tok} {lr : List (List UInt8)} {u nL nR nN : Nat} (e1 : E.outL = lo) (e2 : E.used = u) (e3 : E.notes = ln) (e4 : E.reads = lr) (l1 : lo.length = nL) (l2 : lr.length = nR) (l3 : ln.length = nN) :
    ∃ aL cL aR cR aN cN, o = .agg #[.slice aL nL cL, .slice aR nR cR, .slice aN nN cN, .int .i64 (u : Int)] ∧ ∀ W, Below w.heap.size w W → Rt W (.slice aL nL cL) lo ∧ Rx W (.slice aR nR cR) lr ∧ Rt W (.slice aN nN cN) ln := by
  obtain ⟨vL, vR, vN, rfl, h1, h2, h3⟩ := h
  obtain ⟨aL, cL, rfl⟩ := h1.shape
  obtain ⟨aR, cR, rfl⟩ := Rd.shape h2
  obtain ⟨aN, cN, rfl⟩ := h3.shape
  subst e1 e2 e3 e4 l1 l2 l3
  exact ⟨aL, cL, aR, cR, aN, cN, rfl, fun W hb => ⟨h1.below' hb, Rd.below' h2 hb, h3.below' hb⟩⟩
theorem rx_new1 (w : World) (a : List UInt8) : Rx (w.alloc (.cells #[.string (S a)] 9)) (.slice (some ⟨w.heap.size, 0, none⟩) 1 1) [a] := by
  refine ⟨rfl, .inr ⟨w.heap.size, 0, 1, rfl, fun _ => by simp, fun j u hj => ?_, Nat.le_refl _⟩⟩
  rw [Nat.zero_add, row_cell (heap_alloc_new w _)]
  simpa [xcs] using hj
theorem rx_new2 (w : World) (a b : List UInt8) : Rx (w.alloc (.cells #[.string (S a), .string (S b)] 9)) (.slice (some ⟨w.heap.size, 0, none⟩) 2 2) [a, b] := by
  refine ⟨rfl, .inr ⟨w.heap.size, 0, 2, rfl, fun _ => by simp, fun j u hj => ?_, Nat.le_refl _⟩⟩
  rw [Nat.zero_add, row_cell (heap_alloc_new w _)]
  simpa [xcs] using hj
theorem rn_new1 (w : World) (k : Int) (a : List UInt8) : Rt (w.alloc (.cells #[.int .i64 k, .string (S a)] 81)) (.slice (some ⟨w.heap.size, 0, none⟩) 1 1) [(k, a)] := by
  refine ⟨rfl, .inr ⟨w.heap.size, 0, 1, rfl, fun _ => by simp, fun j u hj => ?_, Nat.le_refl _⟩⟩
  rw [Nat.zero_add, row_cell (heap_alloc_new w _)]
  simpa [tcs, tc] using hj
theorem rn_new2 (w : World) (k m : Int) (a b : List UInt8) : Rt (w.alloc (.cells #[.int .i64 k, .string (S a), .int .i64 m, .string (S b)] 81)) (.slice (some ⟨w.heap.size, 0, none⟩) 2 2) [(k, a), (m, b)] := by
  refine ⟨rfl, .inr ⟨w.heap.size, 0, 2, rfl, fun _ => by simp, fun j u hj => ?_, Nat.le_refl _⟩⟩
  rw [Nat.zero_add, row_cell (heap_alloc_new w _)]
  simpa [tcs, tc] using hj

set_option maxRecDepth 20000 in
set_option maxHeartbeats 8000000 in
/-- The calls whose answers the document fixes: true. -/
theorem exFixed_any (w : World) (hgl : Gl w) (hw0 : 0 < w.heap.size) :
    Calls Tryz.prog 11 #[] w fun e w' => e = .returned (.bool true) ∧ Below w.heap.size w w' := by
  have HGL := Lib.hid hgl
  clear hgl
  go_enter Tryz.func11, Tryz.ntmps11
  simp only [S_lit]
  have H1 := Lib.hid (of8_any xA 9 w (by decide) (by decide) HGL.out hw0 (zf := 9) rfl)
  go_upto_region 2 with (go_at_call 27; (with_reducible refine H1.out.mono ?_); rintro e w1 ⟨o, rfl, ro, b1⟩; obtain ⟨aL1, cL1, aR1, cR1, aN1, cN1, rfl, hA1⟩ := shape9 ro exA_is.1 exA_is.2.1 exA_is.2.2.1 exA_is.2.2.2 rfl rfl rfl; have HA1 := Lib.hid hA1; have HB1 := Lib.hid b1; clear hA1 b1 ro)
  obtain ⟨V1, hV1⟩ : ∃ V, V = w1.alloc (.cells #[.slice aL1 3 cL1, .slice aR1 1 cR1, .slice aN1 0 cN1, .int .i64 1] 31) := ⟨_, rfl⟩
  rw [show w1.alloc (.cells #[.slice aL1 3 cL1, .slice aR1 1 cR1, .slice aN1 0 cN1, .int .i64 1] 31) = V1 from hV1.symm]
  have hv1 : Below w1.heap.size w1 V1 := by rw [hV1]; exact (Below.refl _ _).alloc (Nat.le_refl _) _
  have HR1 : Hid (Ro V1 w1.heap.size 31 [.slice aL1 3 cL1, .slice aR1 1 cR1, .slice aN1 0 cN1, .int .i64 1]) := Lib.hid (by rw [hV1]; exact heap_alloc_new w1 _)
  have HV1 : Hid (Below w.heap.size w V1) := Lib.hid (HB1.out.trans (hv1.mono HB1.out.size))
  have HX1 := Lib.hid hv1
  have HT1 : Hid (Below w.heap.size w V1) := Lib.hid (HV1.out)
  clear hV1 hv1 H1
  have H2 := Lib.hid (of8_any xB 5 V1 (by decide) (by decide) (HGL.out.below hw0 HT1.out) (Nat.lt_of_lt_of_le hw0 HT1.out.size) (zf := 5) rfl)
  go_upto_region 3 with (go_at_call 27; (with_reducible refine H2.out.mono ?_); rintro e w2 ⟨o, rfl, ro, b2⟩; obtain ⟨aL2, cL2, aR2, cR2, aN2, cN2, rfl, hA2⟩ := shape9 ro exB_is.1 exB_is.2.1 exB_is.2.2 exB_more rfl rfl rfl; have HA2 := Lib.hid hA2; have HB2 := Lib.hid b2; clear hA2 b2 ro)
  obtain ⟨V2, hV2⟩ : ∃ V, V = w2.alloc (.cells #[.slice aL2 0 cL2, .slice aR2 1 cR2, .slice aN2 1 cN2, .int .i64 5] 31) := ⟨_, rfl⟩
  rw [show w2.alloc (.cells #[.slice aL2 0 cL2, .slice aR2 1 cR2, .slice aN2 1 cN2, .int .i64 5] 31) = V2 from hV2.symm]
  have hv2 : Below w2.heap.size w2 V2 := by rw [hV2]; exact (Below.refl _ _).alloc (Nat.le_refl _) _
  have HR2 : Hid (Ro V2 w2.heap.size 31 [.slice aL2 0 cL2, .slice aR2 1 cR2, .slice aN2 1 cN2, .int .i64 5]) := Lib.hid (by rw [hV2]; exact heap_alloc_new w2 _)
  have HV2 : Hid (Below V1.heap.size V1 V2) := Lib.hid (HB2.out.trans (hv2.mono HB2.out.size))
  have HX2 := Lib.hid hv2
  have HT2 : Hid (Below w.heap.size w V2) := Lib.hid (HT1.out.trans (HV2.out.mono HT1.out.size))
  clear hV2 hv2 H2
  have H3 := Lib.hid (of8_any xC 5 V2 (by decide) (by decide) (HGL.out.below hw0 HT2.out) (Nat.lt_of_lt_of_le hw0 HT2.out.size) (zf := 5) rfl)
  go_upto_region 4 with (go_at_call 27; (with_reducible refine H3.out.mono ?_); rintro e w3 ⟨o, rfl, ro, b3⟩; obtain ⟨aL3, cL3, aR3, cR3, aN3, cN3, rfl, hA3⟩ := shape9 ro exC_is.1 exC_more exC_is.2.1 exC_is.2.2 rfl rfl rfl; have HA3 := Lib.hid hA3; have HB3 := Lib.hid b3; clear hA3 b3 ro)
  obtain ⟨V3, hV3⟩ : ∃ V, V = w3.alloc (.cells #[.slice aL3 1 cL3, .slice aR3 2 cR3, .slice aN3 2 cN3, .int .i64 1] 31) := ⟨_, rfl⟩
  rw [show w3.alloc (.cells #[.slice aL3 1 cL3, .slice aR3 2 cR3, .slice aN3 2 cN3, .int .i64 1] 31) = V3 from hV3.symm]
  have hv3 : Below w3.heap.size w3 V3 := by rw [hV3]; exact (Below.refl _ _).alloc (Nat.le_refl _) _
  have HR3 : Hid (Ro V3 w3.heap.size 31 [.slice aL3 1 cL3, .slice aR3 2 cR3, .slice aN3 2 cN3, .int .i64 1]) := Lib.hid (by rw [hV3]; exact heap_alloc_new w3 _)
  have HV3 : Hid (Below V2.heap.size V2 V3) := Lib.hid (HB3.out.trans (hv3.mono HB3.out.size))
  have HX3 := Lib.hid hv3
  have HT3 : Hid (Below w.heap.size w V3) := Lib.hid (HT2.out.trans (HV3.out.mono HT2.out.size))
  clear hV3 hv3 H3
  have H4 := Lib.hid (exp9_any (.slice none 0 0) [] [109] 0 0 V3 (Rf.nil _) (by unfold Fi.Ord Sorted; exact List.Pairwise.nil) (by decide) (by intro f hf; cases hf) (by decide) (by decide) (HGL.out.below hw0 HT3.out) (Nat.lt_of_lt_of_le hw0 HT3.out.size) (zf := 0) (zm := 0) rfl rfl)
  go_upto_region 5 with (go_at_call 7; (with_reducible refine H4.out.mono ?_); rintro e w4 ⟨o, rfl, ro, b4, _⟩; obtain ⟨aL4, cL4, aR4, cR4, aN4, cN4, rfl, hA4⟩ := shape9 (E := exDD) ro exD_is.1 exD_more.2 exD_is.2 exD_more.1 rfl rfl rfl; have HA4 := Lib.hid hA4; have HB4 := Lib.hid b4; clear hA4 b4 ro)
  obtain ⟨V4, hV4⟩ : ∃ V, V = w4.alloc (.cells #[.slice aL4 0 cL4, .slice aR4 1 cR4, .slice aN4 1 cN4, .int .i64 0] 31) := ⟨_, rfl⟩
  rw [show w4.alloc (.cells #[.slice aL4 0 cL4, .slice aR4 1 cR4, .slice aN4 1 cN4, .int .i64 0] 31) = V4 from hV4.symm]
  have hv4 : Below w4.heap.size w4 V4 := by rw [hV4]; exact (Below.refl _ _).alloc (Nat.le_refl _) _
  have HR4 : Hid (Ro V4 w4.heap.size 31 [.slice aL4 0 cL4, .slice aR4 1 cR4, .slice aN4 1 cN4, .int .i64 0]) := Lib.hid (by rw [hV4]; exact heap_alloc_new w4 _)
  have HV4 : Hid (Below V3.heap.size V3 V4) := Lib.hid (HB4.out.trans (hv4.mono HB4.out.size))
  have HX4 := Lib.hid hv4
  have HT4 : Hid (Below w.heap.size w V4) := Lib.hid (HT3.out.trans (HV4.out.mono HT3.out.size))
  clear hV4 hv4 H4
  have H5 := Lib.hid (exp_bad (.slice none 0 0) [109] (-1) 0 V4 (by omega))
  go_upto_region 6 with (go_at_call 7; (with_reducible refine H5.out.mono ?_); rintro e w5 ⟨rfl, b5⟩; have HB5 := Lib.hid b5; clear b5)
  obtain ⟨V5, hV5⟩ : ∃ V, V = w5.alloc (.cells #[.slice none 0 0, .slice none 0 0, .slice none 0 0, .int .i64 0] 31) := ⟨_, rfl⟩
  rw [show w5.alloc (.cells #[.slice none 0 0, .slice none 0 0, .slice none 0 0, .int .i64 0] 31) = V5 from hV5.symm]
  have HV5 : Hid (Below V4.heap.size V4 V5) := Lib.hid (by rw [hV5]; exact HB5.out.alloc HB5.out.size _)
  have H6 := Lib.hid (exp_bad (.slice none 0 0) [109] 0 20001 V5 (by omega))
  have HC : Hid (∀ W, Below V4.heap.size V4 W → (W.cell? ⟨w1.heap.size, 0, none⟩ = some (.slice aL1 3 cL1) ∧ W.cell? ⟨w1.heap.size, 1, none⟩ = some (.slice aR1 1 cR1) ∧ W.cell? ⟨w1.heap.size, 2, none⟩ = some (.slice aN1 0 cN1) ∧ W.cell? ⟨w1.heap.size, 3, none⟩ = some (.int .i64 1) ∧ W.cell? ⟨w2.heap.size, 0, none⟩ = some (.slice aL2 0 cL2) ∧ W.cell? ⟨w2.heap.size, 2, none⟩ = some (.slice aN2 1 cN2) ∧ W.cell? ⟨w2.heap.size, 3, none⟩ = some (.int .i64 5) ∧ W.cell? ⟨w3.heap.size, 0, none⟩ = some (.slice aL3 1 cL3) ∧ W.cell? ⟨w3.heap.size, 1, none⟩ = some (.slice aR3 2 cR3) ∧ W.cell? ⟨w3.heap.size, 2, none⟩ = some (.slice aN3 2 cN3) ∧ W.cell? ⟨w4.heap.size, 0, none⟩ = some (.slice aL4 0 cL4) ∧ W.cell? ⟨w4.heap.size, 2, none⟩ = some (.slice aN4 1 cN4)) ∧ (Rt W (.slice aL1 3 cL1) [(1, [60]), (1, [97]), (1, [62])] ∧ Rx W (.slice aR1 1 cR1) [[109]] ∧ Rt W (.slice aN1 0 cN1) []) ∧ (Rt W (.slice aL2 0 cL2) [] ∧ Rx W (.slice aR2 1 cR2) [[109]] ∧ Rt W (.slice aN2 1 cN2) [(9, [120])]) ∧ (Rt W (.slice aL3 1 cL3) [(1, [98])] ∧ Rx W (.slice aR3 2 cR3) [[109], [110]] ∧ Rt W (.slice aN3 2 cN3) [(4, [110]), (2, [49])]) ∧ (Rt W (.slice aL4 0 cL4) [] ∧ Rx W (.slice aR4 1 cR4) [[109]] ∧ Rt W (.slice aN4 1 cN4) [(4, [109])])) := Lib.hid fun W hb => by
    have l1 := HR1.out.lt
    have l2 := HR2.out.lt
    have l3 := HR3.out.lt
    have l4 := HR4.out.lt
    have s2 := HV2.out.size
    have s3 := HV3.out.size
    have s4 := HV4.out.size
    have r1 := (((HR1.out.kw (Kw.of_below HV2.out) (by omega)).kw (Kw.of_below HV3.out) (by omega)).kw (Kw.of_below HV4.out) (by omega)).kw (Kw.of_below hb) (by omega)
    have r2 := ((HR2.out.kw (Kw.of_below HV3.out) (by omega)).kw (Kw.of_below HV4.out) (by omega)).kw (Kw.of_below hb) (by omega)
    have r3 := (HR3.out.kw (Kw.of_below HV4.out) (by omega)).kw (Kw.of_below hb) (by omega)
    have r4 := HR4.out.kw (Kw.of_below hb) (by omega)
    have g34 := HX4.out.trans (hb.mono HX4.out.size)
    have gh3 := HV4.out.trans (hb.mono HV4.out.size)
    have gh2 := HV3.out.trans (gh3.mono HV3.out.size)
    have gh1 := HV2.out.trans (gh2.mono HV2.out.size)
    have m1 := HA1.out W (HX1.out.trans (gh1.mono HX1.out.size))
    have m2 := HA2.out W (HX2.out.trans (gh2.mono HX2.out.size))
    have m3 := HA3.out W (HX3.out.trans (gh3.mono HX3.out.size))
    have m4 := HA4.out W g34
    exact ⟨⟨r1.cell (i := 0) rfl, r1.cell (i := 1) rfl, r1.cell (i := 2) rfl, r1.cell (i := 3) rfl, r2.cell (i := 0) rfl, r2.cell (i := 2) rfl, r2.cell (i := 3) rfl, r3.cell (i := 0) rfl, r3.cell (i := 1) rfl, r3.cell (i := 2) rfl, r4.cell (i := 0) rfl, r4.cell (i := 2) rfl⟩, m1, m2, m3, m4⟩
  have HW1 : Hid (∀ W, Below V4.heap.size V4 W → Calls Tryz.prog 24 #[.slice aR1 1 cR1, .slice (some ⟨W.heap.size, 0, none⟩) 1 1] (W.alloc (.cells #[.string (S [109])] 9)) fun e w' => e = .returned (.bool true) ∧ Below W.heap.size W w') := Lib.hid fun W hb => by
    obtain ⟨_, m1, m2, m3, m4⟩ := HC.out (W.alloc (.cells #[.string (S [109])] 9)) (hb.alloc hb.size _)
    have h9 := words_any _ _ [[109]] [[109]] _ m1.2.1 (rx_new1 W [109]) (by decide) (by decide)
    exact h9.mono fun e w' ⟨a, b⟩ => ⟨a, ((Below.refl W.heap.size W).alloc (Nat.le_refl _) _).trans (b.mono (by simp))⟩
  have HW2 : Hid (∀ W, Below V4.heap.size V4 W → Calls Tryz.prog 25 #[.slice aN2 1 cN2, .slice (some ⟨W.heap.size, 0, none⟩) 1 1] (W.alloc (.cells #[.int .i64 9, .string (S [120])] 81)) fun e w' => e = .returned (.bool true) ∧ Below W.heap.size W w') := Lib.hid fun W hb => by
    obtain ⟨_, m1, m2, m3, m4⟩ := HC.out (W.alloc (.cells #[.int .i64 9, .string (S [120])] 81)) (hb.alloc hb.size _)
    have h9 := notes_any _ _ [(9, [120])] [(9, [120])] _ m2.2.2 (rn_new1 W 9 [120]) (by decide) (by decide)
    exact h9.mono fun e w' ⟨a, b⟩ => ⟨a, ((Below.refl W.heap.size W).alloc (Nat.le_refl _) _).trans (b.mono (by simp))⟩
  have HW3 : Hid (∀ W, Below V4.heap.size V4 W → Calls Tryz.prog 24 #[.slice aR3 2 cR3, .slice (some ⟨W.heap.size, 0, none⟩) 2 2] (W.alloc (.cells #[.string (S [109]), .string (S [110])] 9)) fun e w' => e = .returned (.bool true) ∧ Below W.heap.size W w') := Lib.hid fun W hb => by
    obtain ⟨_, m1, m2, m3, m4⟩ := HC.out (W.alloc (.cells #[.string (S [109]), .string (S [110])] 9)) (hb.alloc hb.size _)
    have h9 := words_any _ _ [[109], [110]] [[109], [110]] _ m3.2.1 (rx_new2 W [109] [110]) (by decide) (by decide)
    exact h9.mono fun e w' ⟨a, b⟩ => ⟨a, ((Below.refl W.heap.size W).alloc (Nat.le_refl _) _).trans (b.mono (by simp))⟩
  have HW4 : Hid (∀ W, Below V4.heap.size V4 W → Calls Tryz.prog 25 #[.slice aN3 2 cN3, .slice (some ⟨W.heap.size, 0, none⟩) 2 2] (W.alloc (.cells #[.int .i64 4, .string (S [110]), .int .i64 2, .string (S [49])] 81)) fun e w' => e = .returned (.bool true) ∧ Below W.heap.size W w') := Lib.hid fun W hb => by
    obtain ⟨_, m1, m2, m3, m4⟩ := HC.out (W.alloc (.cells #[.int .i64 4, .string (S [110]), .int .i64 2, .string (S [49])] 81)) (hb.alloc hb.size _)
    have h9 := notes_any _ _ [(4, [110]), (2, [49])] [(4, [110]), (2, [49])] _ m3.2.2 (rn_new2 W 4 2 [110] [49]) (by decide) (by decide)
    exact h9.mono fun e w' ⟨a, b⟩ => ⟨a, ((Below.refl W.heap.size W).alloc (Nat.le_refl _) _).trans (b.mono (by simp))⟩
  have HW5 : Hid (∀ W, Below V4.heap.size V4 W → Calls Tryz.prog 25 #[.slice aN4 1 cN4, .slice (some ⟨W.heap.size, 0, none⟩) 1 1] (W.alloc (.cells #[.int .i64 4, .string (S [109])] 81)) fun e w' => e = .returned (.bool true) ∧ Below W.heap.size W w') := Lib.hid fun W hb => by
    obtain ⟨_, m1, m2, m3, m4⟩ := HC.out (W.alloc (.cells #[.int .i64 4, .string (S [109])] 81)) (hb.alloc hb.size _)
    have h9 := notes_any _ _ [(4, [109])] [(4, [109])] _ m4.2.2 (rn_new1 W 4 [109]) (by decide) (by decide)
    exact h9.mono fun e w' ⟨a, b⟩ => ⟨a, ((Below.refl W.heap.size W).alloc (Nat.le_refl _) _).trans (b.mono (by simp))⟩
  have HT1 : Hid (∀ W, Below V4.heap.size V4 W → Calls Tryz.prog 28 #[.slice aL1 3 cL1] W fun e w' => e = .returned (.string (S [60, 97, 62])) ∧ Below W.heap.size W w') := Lib.hid fun W hb => by
    have h9 := text_any _ _ W (HC.out W hb).2.1.1 (by decide) (by decide)
    rw [exA_text] at h9
    exact h9
  have HT3 : Hid (∀ W, Below V4.heap.size V4 W → Calls Tryz.prog 28 #[.slice aL3 1 cL3] W fun e w' => e = .returned (.string (S [98])) ∧ Below W.heap.size W w') := Lib.hid fun W hb => by
    have h9 := text_any _ _ W (HC.out W hb).2.2.2.1.1 (by decide) (by decide)
    rw [show Lx.text [(1, [98])] = [98] from by decide +kernel] at h9
    exact h9
  clear hV5 H5
  go_wp2_with (first
    | (go_at_call 7; (with_reducible refine H6.out.mono ?_); rintro e w6 ⟨rfl, b6⟩; have g6 : Below V4.heap.size V4 (w6.alloc (.cells #[.slice none 0 0, .slice none 0 0, .slice none 0 0, .int .i64 0] 31)) := (HV5.out.trans (b6.mono HV5.out.size)).alloc (Nat.le_trans HV5.out.size b6.size) _; obtain ⟨⟨c10, c11, c12, c13, c20, c22, c23, c30, c31, c32, c40, c42⟩, _⟩ := HC.out _ g6)
    | (go_at_call 28; (with_reducible refine (HT1.out _ g6).mono ?_); rintro e w7 ⟨rfl, b7⟩; have g7 := g6.trans (b7.mono g6.size); obtain ⟨⟨c10, c11, c12, c13, c20, c22, c23, c30, c31, c32, c40, c42⟩, _⟩ := HC.out _ g7)
    | (go_at_call 24; (with_reducible refine (HW1.out _ g7).mono ?_); rintro e w8 ⟨rfl, b8⟩; have g8 := g7.trans (b8.mono g7.size); obtain ⟨⟨c10, c11, c12, c13, c20, c22, c23, c30, c31, c32, c40, c42⟩, _⟩ := HC.out _ g8)
    | (go_at_call 25; (with_reducible refine (HW2.out _ g8).mono ?_); rintro e w9 ⟨rfl, b9⟩; have g9 := g8.trans (b9.mono g8.size); obtain ⟨⟨c10, c11, c12, c13, c20, c22, c23, c30, c31, c32, c40, c42⟩, _⟩ := HC.out _ g9)
    | (go_at_call 28; (with_reducible refine (HT3.out _ g9).mono ?_); rintro e wa ⟨rfl, ba⟩; have ga := g9.trans (ba.mono g9.size); obtain ⟨⟨c10, c11, c12, c13, c20, c22, c23, c30, c31, c32, c40, c42⟩, _⟩ := HC.out _ ga)
    | (go_at_call 24; (with_reducible refine (HW3.out _ ga).mono ?_); rintro e wb ⟨rfl, bb⟩; have gb := ga.trans (bb.mono ga.size); obtain ⟨⟨c10, c11, c12, c13, c20, c22, c23, c30, c31, c32, c40, c42⟩, _⟩ := HC.out _ gb)
    | (go_at_call 25; (with_reducible refine (HW4.out _ gb).mono ?_); rintro e wc ⟨rfl, bc⟩; have gc := gb.trans (bc.mono gb.size); obtain ⟨⟨c10, c11, c12, c13, c20, c22, c23, c30, c31, c32, c40, c42⟩, _⟩ := HC.out _ gc)
    | (go_at_call 25; (with_reducible refine (HW5.out _ gc).mono ?_); rintro e wd ⟨rfl, bd⟩; have gd := gc.trans (bd.mono gc.size); obtain ⟨⟨c10, c11, c12, c13, c20, c22, c23, c30, c31, c32, c40, c42⟩, _⟩ := HC.out _ gd)
    | fail)
  (try simp only [Exit.inBlock, Exit.then])
  go_ret
  exact ⟨rfl, HT4.out.trans (gd.mono HT4.out.size)⟩
end Go.Proofs.YtjfikkjaifdkiaaGreatDoor

namespace Go.Proofs.YtjfikkjaifdkiaaGreatDoor
namespace Ex
open Lx

/-- What only grows. -/
structure Grow (most : Nat) (a b : St) : Prop where
  nts : a.notes <+: b.notes
  rds : a.reads <+: b.reads
  fu : b.fuel + b.used = a.fuel + a.used
  out : a.outL.length ≤ most → b.outL.length ≤ most
theorem Grow.refl (most : Nat) (a : St) : Grow most a a := ⟨List.prefix_rfl, List.prefix_rfl, rfl, id⟩
theorem Grow.trans {most : Nat} {a b c : St} (h : Grow most a b) (k : Grow most b c) : Grow most a c :=
  ⟨h.nts.trans k.nts, h.rds.trans k.rds, k.fu.trans h.fu, fun x => k.out (h.out x)⟩
theorem Grow.note {most : Nat} {a b : St} (h : Grow most a b) (e : Int) (s : List UInt8) : Grow most a (note b e s) := ⟨h.nts.trans (List.prefix_append _ _), h.rds, h.fu, h.out⟩
theorem Grow.inn {most : Nat} {a b : St} (h : Grow most a b) (r : List Tok) : Grow most a { b with inn := r } := ⟨h.nts, h.rds, h.fu, h.out⟩
theorem Grow.macs {most : Nat} {a b : St} (h : Grow most a b) (m : List Mac) : Grow most a { b with macs := m } := ⟨h.nts, h.rds, h.fu, h.out⟩
theorem Grow.burnt {most : Nat} {a b : St} (h : Grow most a b) (hf : ¬ b.fuel = 0) : Grow most a (burnt b) := ⟨h.nts, h.rds, by have := h.fu; show b.fuel - 1 + (b.used + 1) = _; omega, h.out⟩
theorem Grow.ask {most : Nat} {a b : St} (h : Grow most a b) (name : List UInt8) : Grow most a (ask b name) := by
  unfold Ex.ask
  split
  · exact h
  · exact ⟨h.nts, h.rds.trans (List.prefix_append _ _), h.fu, h.out⟩
theorem Grow.come {most : Nat} {a b : St} (h : Grow most a b) (m : Nat) (name : List UInt8) (l : List Tok) : Grow most a (come m b name l) := by
  unfold Ex.come
  split
  · exact h.note _ _
  · exact h.inn _
theorem grow_def (most : Nat) (a : St) : Grow most a (doDef a) := by
  unfold doDef
  cases gr a.inn 3 2 with
  | none => exact (Grow.refl _ _).note _ _
  | some y =>
    obtain ⟨x, ws, r⟩ := y
    simp only
    split
    · split
      · exact ((Grow.refl _ _).inn r).macs _
      · exact ((Grow.refl _ _).inn r).note _ _
    · exact (Grow.refl _ _).note _ _
theorem grow_undef (most : Nat) (a : St) : Grow most a (doUndef a) := by
  unfold doUndef
  cases gr a.inn 1 1 with
  | none => exact (Grow.refl _ _).note _ _
  | some y => obtain ⟨x, ws, r⟩ := y; exact ((Grow.refl _ _).inn r).macs _
theorem grow_ifdef (most : Nat) (a : St) : Grow most a (doIfdef a) := by
  unfold doIfdef
  cases gr a.inn 3 1 with
  | none => exact (Grow.refl _ _).note _ _
  | some y => obtain ⟨x, ws, r⟩ := y; exact (Grow.refl _ _).inn _
theorem grow_incl (fs : List Fi.F) (most : Nat) (a : St) (name : List UInt8) : Grow most a (incl fs most a name) := by
  unfold incl
  split
  · exact (Grow.refl _ _).note _ _
  · split
    · exact (Grow.refl _ _).note _ _
    · split
      · exact (Grow.refl _ _).note _ _
      · rename_i hf
        split
        · exact (((Grow.refl _ _).burnt hf).ask _).note _ _
        · exact (((Grow.refl _ _).burnt hf).ask _).come _ _ _
theorem grow_include (fs : List Fi.F) (most : Nat) (a : St) : Grow most a (doInclude fs most a) := by
  unfold doInclude
  cases gr a.inn 1 1 with
  | none => exact (Grow.refl _ _).note _ _
  | some y => obtain ⟨x, ws, r⟩ := y; exact ((Grow.refl _ _).inn r).trans (grow_incl _ _ _ _)
theorem grow_call (most : Nat) (a : St) (m : Mac) : Grow most a (doCall most a m) := by
  unfold doCall
  cases gr a.inn m.2.1 0 with
  | none => exact (Grow.refl _ _).note _ _
  | some y =>
    obtain ⟨x, ws, r⟩ := y
    simp only
    split
    · exact ((Grow.refl _ _).inn r).note _ _
    · rename_i hf
      exact (((Grow.refl _ _).inn r).burnt hf).come _ _ _
theorem grow_cmd {fs : List Fi.F} {most : Nat} {a b : St} {s : List UInt8} (h : cmd fs most a s = some b) : Grow most a b := by
  unfold cmd at h
  split at h
  · injection h with h; subst h; exact grow_def _ _
  · split at h
    · injection h with h; subst h; exact grow_undef _ _
    · split at h
      · injection h with h; subst h; exact grow_ifdef _ _
      · split at h
        · injection h with h; subst h; exact grow_include _ _ _
        · split at h
          · injection h with h; subst h; exact grow_call _ _ _
          · cases h
theorem grow_put (most : Nat) (a : St) (t : Tok) : Grow most a (put most a t).1 := by
  unfold put
  split
  · exact (Grow.refl _ _).note _ _
  · exact ⟨List.prefix_rfl, List.prefix_rfl, rfl, fun _ => by simp only [List.length_append, List.length_singleton]; omega⟩
theorem grow_step (fs : List Fi.F) (most : Nat) (a : St) (t : Tok) : Grow most a (step fs most a t).1 := by
  unfold step
  split
  · cases hc : cmd fs most a t.2 with
    | none => exact grow_put _ _ _
    | some b => exact grow_cmd hc
  · exact grow_put _ _ _
theorem grow_next (fs : List Fi.F) (most : Nat) (a : St) (t : Tok) (r : List Tok) : Grow most a (step fs most { a with inn := r } t).1 := ((Grow.refl _ _).inn r).trans (grow_step _ _ _ _)
theorem grow_run (fs : List Fi.F) (most : Nat) : ∀ (n : Nat) (a : St), Grow most a (run fs most n a)
  | 0, a => Grow.refl _ _
  | n + 1, a => by
    rw [run]
    cases a.inn with
    | nil => exact Grow.refl _ _
    | cons t r =>
      simp only
      split
      · exact (grow_next fs most a t r).trans (grow_run fs most n _)
      · exact grow_next fs most a t r

theorem ok_start9 {fs : List Fi.F} {main : List UInt8} {fuel most T : Nat} (hft : ∀ f ∈ fs, f.2.length ≤ T) : Ok most (most + (start fs main fuel).inn.length) T (start fs main fuel) := by
  have hz : ∀ r : List Tok, r.length ≤ most + r.length := fun r => Nat.le_add_left _ _
  unfold start
  split
  · rename_i hc
    refine ⟨hz _, fun t ht => ?_, by simp [ask, zero], by simp [ask, zero, Sorted], by simp [ask, zero], by simp [ask, zero], by simp [ask, zero]⟩
    refine Nat.le_trans (lex_each _ t ht) ?_
    unfold Fi.get
    cases hc : fs.find? fun f => f.1 == main with
    | none => exact Nat.zero_le _
    | some f => exact hft f (List.mem_of_find?_eq_some hc)
  · exact ⟨hz _, by simp [ask, zero, note], by simp [ask, zero, note], by simp [ask, zero, Sorted, note], by simp [ask, zero, note], by simp [ask, zero, note], by simp [ask, zero, note]⟩
/-- An expansion, with so many rounds as one likes. -/
theorem expand_run {fs : List Fi.F} {main : List UInt8} {fuel most T n : Nat} (hft : ∀ f ∈ fs, f.2.length ≤ T) (hn : mu (most + (start fs main fuel).inn.length) (start fs main fuel) ≤ n) : expand fs main fuel most = run fs most n (start fs main fuel) :=
  run_stable (Nat.le_add_right _ _) hft _ _ _ (ok_start9 hft) (Nat.le_refl _) hn

theorem start_keeps (fs : List Fi.F) (main : List UInt8) (fuel : Nat) : (start fs main fuel).fuel = fuel ∧ (start fs main fuel).used = 0 ∧ (start fs main fuel).outL = [] ∧ (start fs main fuel).reads = [main] ∧ (start fs main fuel).macs = [] := by
  unfold start
  split <;> simp [ask, zero, note]
theorem grow_expand (fs : List Fi.F) (main : List UInt8) (fuel most : Nat) : Grow most (start fs main fuel) (expand fs main fuel most) := grow_run _ _ _ _
theorem used_le (fs : List Fi.F) (main : List UInt8) (fuel most : Nat) : (expand fs main fuel most).used ≤ fuel := by
  have h := (grow_expand fs main fuel most).fu
  obtain ⟨h1, h2, _⟩ := start_keeps fs main fuel
  omega
theorem outL_le (fs : List Fi.F) (main : List UInt8) (fuel most : Nat) : (expand fs main fuel most).outL.length ≤ most :=
  (grow_expand fs main fuel most).out (by rw [(start_keeps fs main fuel).2.2.1]; exact Nat.zero_le _)
theorem main_read (fs : List Fi.F) (main : List UInt8) (fuel most : Nat) : ∃ r, (expand fs main fuel most).reads = main :: r := by
  obtain ⟨r, hr⟩ := (grow_expand fs main fuel most).rds
  rw [(start_keeps fs main fuel).2.2.2.1] at hr
  exact ⟨r, hr.symm⟩

/-! ### with more of either -/
def plus (a : St) : St := { a with fuel := a.fuel + 1 }
theorem nil_of_prefix {α : Type} {a b : List α} (h : a <+: b) (hb : b = []) : a = [] := by
  obtain ⟨x, rfl⟩ := h
  exact (List.append_eq_nil_iff.1 hb).1
theorem note_nil {a : St} {e : Int} {s : List UInt8} : ¬ (note a e s).notes = [] := by simp [note]
theorem come_more {most k : Nat} {a : St} {name : List UInt8} {l : List Tok} (h : (come most a name l).notes = []) : come (most + k) (plus a) name l = plus (come most a name l) := by
  unfold come at h ⊢
  split at h
  · exact absurd h note_nil
  · rename_i hc
    rw [if_neg hc, if_neg (by show ¬ most + k < l.length + a.inn.length; omega)]
    rfl
theorem ask_plus (a : St) (name : List UInt8) : ask (plus a) name = plus (ask a name) := by
  unfold ask
  show (if a.reads.contains name = true then _ else _) = _
  split <;> rfl
theorem burnt_plus {a : St} (h : ¬ a.fuel = 0) : burnt (plus a) = plus (burnt a) := by
  unfold burnt plus
  simp only
  rw [show a.fuel + 1 - 1 = a.fuel - 1 + 1 by omega]
theorem def_plus (a : St) : doDef (plus a) = plus (doDef a) := by
  unfold doDef
  show (match gr a.inn 3 2 with | none => _ | some (x, ws, r) => _) = _
  cases gr a.inn 3 2 with
  | none => rfl
  | some y =>
    obtain ⟨x, ws, r⟩ := y
    show (if _ then (if (putM a.macs _).2 = 0 then _ else _) else _) = plus (if _ then (if (putM a.macs _).2 = 0 then _ else _) else _)
    split
    · split
      · rfl
      · rfl
    · rfl
theorem undef_plus (a : St) : doUndef (plus a) = plus (doUndef a) := by
  unfold doUndef
  show (match gr a.inn 1 1 with | none => _ | some (x, ws, r) => _) = _
  cases gr a.inn 1 1 with
  | none => rfl
  | some y => obtain ⟨x, ws, r⟩ := y; rfl
theorem ifdef_plus (a : St) : doIfdef (plus a) = plus (doIfdef a) := by
  unfold doIfdef
  show (match gr a.inn 3 1 with | none => _ | some (x, ws, r) => _) = _
  cases gr a.inn 3 1 with
  | none => rfl
  | some y => obtain ⟨x, ws, r⟩ := y; rfl
theorem incl_more {fs : List Fi.F} {most k : Nat} {a : St} {name : List UInt8} (h : (incl fs most a name).notes = []) : incl fs (most + k) (plus a) name = plus (incl fs most a name) := by
  unfold incl at h ⊢
  by_cases h1 : Fi.okName name = false
  · rw [if_pos h1] at h; exact absurd h note_nil
  · rw [if_neg h1] at h ⊢
    rw [if_neg h1]
    by_cases h2 : 32 ≤ a.reads.length ∧ a.reads.contains name = false
    · rw [if_pos h2] at h; exact absurd h note_nil
    · rw [if_neg h2] at h ⊢
      rw [if_neg (show ¬ (32 ≤ (plus a).reads.length ∧ (plus a).reads.contains name = false) from h2)]
      by_cases h3 : a.fuel = 0
      · rw [if_pos h3] at h; exact absurd h note_nil
      · rw [if_neg h3] at h ⊢
        rw [if_neg (show ¬ (plus a).fuel = 0 by show ¬ a.fuel + 1 = 0; omega)]
        by_cases h4 : (Fi.get fs name).2 = false
        · rw [if_pos h4] at h; exact absurd h note_nil
        · rw [if_neg h4] at h ⊢
          rw [if_neg h4, burnt_plus h3, ask_plus]
          exact come_more h
theorem include_more {fs : List Fi.F} {most k : Nat} {a : St} (h : (doInclude fs most a).notes = []) : doInclude fs (most + k) (plus a) = plus (doInclude fs most a) := by
  unfold doInclude at h ⊢
  show (match gr a.inn 1 1 with | none => _ | some (x, ws, r) => _) = _
  cases hg : gr a.inn 1 1 with
  | none => rfl
  | some y =>
    obtain ⟨x, ws, r⟩ := y
    rw [hg] at h
    exact incl_more (a := { a with inn := r }) h
theorem call_more {most k : Nat} {a : St} {m : Mac} (h : (doCall most a m).notes = []) : doCall (most + k) (plus a) m = plus (doCall most a m) := by
  unfold doCall at h ⊢
  show (match gr a.inn m.2.1 0 with | none => _ | some (x, ws, r) => _) = _
  cases hg : gr a.inn m.2.1 0 with
  | none => rfl
  | some y =>
    obtain ⟨x, ws, r⟩ := y
    rw [hg] at h
    simp only at h ⊢
    by_cases h3 : a.fuel = 0
    · rw [if_pos h3] at h; exact absurd h note_nil
    · rw [if_neg h3] at h ⊢
      rw [if_neg (show ¬ (plus a).fuel = 0 by show ¬ a.fuel + 1 = 0; omega)]
      have e : Ex.burnt { plus a with inn := r } = plus (Ex.burnt { a with inn := r }) := burnt_plus (a := { a with inn := r }) h3
      rw [e]
      exact come_more h
theorem cmd_more {fs : List Fi.F} {most k : Nat} {a : St} {s : List UInt8} (h : ∀ b, cmd fs most a s = some b → b.notes = []) : cmd fs (most + k) (plus a) s = (cmd fs most a s).map plus := by
  unfold cmd at h ⊢
  split
  · exact congrArg some (def_plus a)
  · rename_i h1
    rw [if_neg h1] at h
    split
    · exact congrArg some (undef_plus a)
    · rename_i h2
      rw [if_neg h2] at h
      split
      · exact congrArg some (ifdef_plus a)
      · rename_i h3
        rw [if_neg h3] at h
        split
        · rename_i h4
          rw [if_pos h4] at h
          exact congrArg some (include_more (h _ rfl))
        · rename_i h4
          rw [if_neg h4] at h
          show (if (getM a.macs s).2 = true then _ else _) = _
          split
          · rename_i h5
            rw [if_pos h5] at h
            exact congrArg some (call_more (h _ rfl))
          · rfl
theorem put_more {most k : Nat} {a : St} {t : Tok} (h : (put most a t).1.notes = []) : put (most + k) (plus a) t = (plus (put most a t).1, (put most a t).2) := by
  unfold put at h ⊢
  split at h
  · exact absurd h note_nil
  · rename_i hc
    rw [if_neg hc, if_neg (by show ¬ most + k ≤ a.outL.length; omega)]
    rfl
theorem step_more {fs : List Fi.F} {most k : Nat} {a : St} {t : Tok} (h : (step fs most a t).1.notes = []) : step fs (most + k) (plus a) t = (plus (step fs most a t).1, (step fs most a t).2) := by
  unfold step at h ⊢
  split
  · rename_i h4
    rw [if_pos h4] at h
    have h9 : ∀ b, cmd fs most a t.2 = some b → b.notes = [] := fun b hb => by rw [hb] at h; exact h
    rw [cmd_more h9]
    cases hc : cmd fs most a t.2 with
    | none =>
      rw [hc] at h
      exact put_more h
    | some b => rfl
  · rename_i h4
    rw [if_neg h4] at h
    exact put_more h
theorem run_more {fs : List Fi.F} {most k : Nat} : ∀ (n : Nat) (a : St), (run fs most n a).notes = [] → run fs (most + k) n (plus a) = plus (run fs most n a)
  | 0, a, _ => rfl
  | n + 1, a, h => by
    rw [run] at h ⊢
    rw [run]
    show (match a.inn with | [] => plus a | t :: r => _) = _
    cases hi : a.inn with
    | nil => rfl
    | cons t r =>
      rw [hi] at h
      simp only at h ⊢
      have hn : (step fs most { a with inn := r } t).1.notes = [] := by
        split at h
        · exact nil_of_prefix (grow_run fs most n _).nts h
        · exact h
      have e : step fs (most + k) { plus a with inn := r } t = (plus (step fs most { a with inn := r } t).1, (step fs most { a with inn := r } t).2) := step_more (a := { a with inn := r }) hn
      rw [e]
      simp only
      split
      · rename_i hc
        rw [if_pos hc] at h
        exact run_more n _ h
      · rfl
theorem start_plus (fs : List Fi.F) (main : List UInt8) (fuel : Nat) : start fs main (fuel + 1) = plus (start fs main fuel) := by
  unfold start
  split <;> simp [ask, zero, note, plus]
theorem expand_more {fs : List Fi.F} {main : List UInt8} {fuel most k T : Nat} (hft : ∀ f ∈ fs, f.2.length ≤ T) (h : (expand fs main fuel most).notes = []) : expand fs main (fuel + 1) (most + k) = plus (expand fs main fuel most) := by
  obtain ⟨n, hn1, hn2⟩ : ∃ n, mu (most + (start fs main fuel).inn.length) (start fs main fuel) ≤ n ∧ mu (most + k + (start fs main (fuel + 1)).inn.length) (start fs main (fuel + 1)) ≤ n := ⟨_, Nat.le_max_left _ _, Nat.le_max_right _ _⟩
  rw [expand_run hft hn1] at h ⊢
  rw [expand_run hft hn2, start_plus]
  exact run_more n _ h

/-! ### files that are not asked for -/
theorem incl_files {fs fs' : List Fi.F} {most : Nat} {a : St} {name : List UInt8} (h : ∀ s ∈ (incl fs most a name).reads, Fi.get fs s = Fi.get fs' s) : incl fs' most a name = incl fs most a name := by
  unfold incl at h ⊢
  by_cases h1 : Fi.okName name = false
  · rw [if_pos h1, if_pos h1]
  · rw [if_neg h1] at h ⊢
    rw [if_neg h1]
    by_cases h2 : 32 ≤ a.reads.length ∧ a.reads.contains name = false
    · rw [if_pos h2, if_pos h2]
    · rw [if_neg h2] at h ⊢
      rw [if_neg h2]
      by_cases h3 : a.fuel = 0
      · rw [if_pos h3, if_pos h3]
      · rw [if_neg h3] at h ⊢
        rw [if_neg h3]
        have hm : name ∈ (ask (burnt a) name).reads := by
          unfold ask
          split
          · rename_i hc; exact List.contains_iff_mem.1 hc
          · simp
        have e : Fi.get fs name = Fi.get fs' name := by
          apply h
          split
          · exact hm
          · unfold come; split <;> exact hm
        rw [e]
theorem include_files {fs fs' : List Fi.F} {most : Nat} {a : St} (h : ∀ s ∈ (doInclude fs most a).reads, Fi.get fs s = Fi.get fs' s) : doInclude fs' most a = doInclude fs most a := by
  unfold doInclude at h ⊢
  cases hg : gr a.inn 1 1 with
  | none => rfl
  | some y =>
    obtain ⟨x, ws, r⟩ := y
    rw [hg] at h
    exact incl_files h
theorem cmd_files {fs fs' : List Fi.F} {most : Nat} {a : St} {s : List UInt8} (h : ∀ b, cmd fs most a s = some b → ∀ s ∈ b.reads, Fi.get fs s = Fi.get fs' s) : cmd fs' most a s = cmd fs most a s := by
  unfold cmd at h ⊢
  by_cases h1 : s = sDef
  · rw [if_pos h1, if_pos h1]
  · rw [if_neg h1] at h ⊢
    rw [if_neg h1]
    by_cases h2 : s = sUndef
    · rw [if_pos h2, if_pos h2]
    · rw [if_neg h2] at h ⊢
      rw [if_neg h2]
      by_cases h3 : s = sIfdef
      · rw [if_pos h3, if_pos h3]
      · rw [if_neg h3] at h ⊢
        rw [if_neg h3]
        by_cases h4 : s = sInc
        · rw [if_pos h4] at h ⊢
          rw [if_pos h4]
          exact congrArg some (include_files (h _ rfl))
        · rw [if_neg h4, if_neg h4]
theorem step_files {fs fs' : List Fi.F} {most : Nat} {a : St} {t : Tok} (h : ∀ s ∈ (step fs most a t).1.reads, Fi.get fs s = Fi.get fs' s) : step fs' most a t = step fs most a t := by
  unfold step at h ⊢
  by_cases h4 : t.1 = 4
  · rw [if_pos h4] at h ⊢
    rw [if_pos h4]
    rw [cmd_files (fs := fs) (fs' := fs') fun b hb => by rw [hb] at h; exact h]
  · rw [if_neg h4, if_neg h4]
theorem run_files {fs fs' : List Fi.F} {most : Nat} : ∀ (n : Nat) (a : St), (∀ s ∈ (run fs most n a).reads, Fi.get fs s = Fi.get fs' s) → run fs' most n a = run fs most n a
  | 0, _, _ => rfl
  | n + 1, a, h => by
    rw [run] at h ⊢
    rw [run]
    cases hi : a.inn with
    | nil => rfl
    | cons t r =>
      rw [hi] at h
      simp only at h ⊢
      have hn : ∀ s ∈ (step fs most { a with inn := r } t).1.reads, Fi.get fs s = Fi.get fs' s := fun s hs => by
        apply h
        split
        · exact (grow_run fs most n _).rds.subset hs
        · exact hs
      rw [step_files hn]
      split
      · rename_i hc
        rw [if_pos hc] at h
        exact run_files n _ h
      · rfl
theorem expand_files {fs fs' : List Fi.F} {main : List UInt8} {fuel most T : Nat} (hft' : ∀ f ∈ fs', f.2.length ≤ T) (h : ∀ s ∈ (expand fs main fuel most).reads, Fi.get fs s = Fi.get fs' s) : expand fs' main fuel most = expand fs main fuel most := by
  obtain ⟨r, hr⟩ := main_read fs main fuel most
  have hm : Fi.get fs main = Fi.get fs' main := h main (by rw [hr]; simp)
  have hs : start fs' main fuel = start fs main fuel := by unfold start; rw [hm]
  have hn : mu (most + (start fs' main fuel).inn.length) (start fs' main fuel) ≤ mu (most + (start fs main fuel).inn.length) (start fs main fuel) := by rw [hs]; exact Nat.le_refl _
  rw [expand_run hft' hn, hs]
  exact run_files _ _ h
end Ex
end Go.Proofs.YtjfikkjaifdkiaaGreatDoor

namespace Go.Proofs.YtjfikkjaifdkiaaGreatDoor
namespace Ex
theorem run_keeps {fs : List Fi.F} {most B T : Nat} (hmB : most ≤ B) (hfs : ∀ f ∈ fs, f.2.length ≤ T) : ∀ (n : Nat) (st : St), Ok most B T st → Ok most B T (run fs most n st) ∧ (run fs most n st).notes.length ≤ st.notes.length + n
  | 0, st, h => ⟨h, Nat.le_refl _⟩
  | n + 1, st, h => by
    rw [run]
    cases hi : st.inn with
    | nil => exact ⟨h, Nat.le_add_right _ _⟩
    | cons t r =>
      obtain ⟨_, h2, _, h4⟩ := lt_next (fs := fs) h hmB hfs hi
      simp only
      split
      · obtain ⟨k1, k2⟩ := run_keeps hmB hfs n _ h2
        exact ⟨k1, by omega⟩
      · exact ⟨h2, by omega⟩
theorem start_len {fs : List Fi.F} {main : List UInt8} {fuel T : Nat} (hft : ∀ f ∈ fs, f.2.length ≤ T) : (start fs main fuel).inn.length ≤ T ∧ (start fs main fuel).notes.length ≤ 1 := by
  unfold start
  split
  · refine ⟨?_, by simp [ask, zero]⟩
    refine Nat.le_trans (lex_len _) ?_
    unfold Fi.get
    cases hc : fs.find? fun f => f.1 == main with
    | none => exact Nat.zero_le _
    | some f => exact hft f (List.mem_of_find?_eq_some hc)
  · exact ⟨by simp [ask, zero, note], by simp [ask, zero, note]⟩
end Ex
theorem small_expand {fs : List Fl} {main : List UInt8} {fuel most : Nat} (hft : ∀ f ∈ fs, f.2.length ≤ 1000) (hfu : fuel ≤ 100) (hmo : most ≤ 1000) : Small (Ex.expand fs main fuel most) := by
  obtain ⟨s1, s2⟩ := Ex.start_len (main := main) (fuel := fuel) hft
  obtain ⟨h1, h2⟩ := Ex.run_keeps (Nat.le_add_right most (Ex.start fs main fuel).inn.length) hft (Ex.mu (most + (Ex.start fs main fuel).inn.length) (Ex.start fs main fuel)) (Ex.start fs main fuel) (Ex.ok_start9 hft)
  have hm : Ex.mu (most + (Ex.start fs main fuel).inn.length) (Ex.start fs main fuel) ≤ 300000 := by
    unfold Ex.mu
    rw [(Ex.start_keeps fs main fuel).1]
    have : fuel * (most + (Ex.start fs main fuel).inn.length + 1) ≤ 100 * 2001 := Nat.mul_le_mul hfu (by omega)
    omega
  refine ⟨Nat.le_trans h1.out (by omega), Nat.le_trans h1.rln (by decide), ?_⟩
  unfold Ex.expand
  omega
end Go.Proofs.YtjfikkjaifdkiaaGreatDoor

namespace Go.Proofs.YtjfikkjaifdkiaaGreatDoor

theorem put_texts {l : List Fl} {f : Fl} {b : Nat} (hl : ∀ g ∈ l, g.2.length ≤ b) (hf : f.2.length ≤ b) : ∀ g ∈ (Fi.put l f).1, g.2.length ≤ b := by
  unfold Fi.put
  split
  · intro g hg; cases hg
  · split
    · intro g hg; cases hg
    · intro g hg
      have hg : g ∈ Fi.putL l f := hg
      unfold Fi.putL at hg
      split at hg
      · rcases List.mem_or_eq_of_mem_set hg with h | rfl
        · exact hl g h
        · exact hf
      · rcases List.mem_append.1 hg with h | h
        · exact hl g (List.mem_of_mem_take h)
        · rcases List.mem_cons.1 h with rfl | h
          · exact hf
          · exact hl g (List.mem_of_mem_drop h)
theorem mapF_keeps (m b : Nat) : ∀ (l out : List Fl), Fi.Ord out → (∀ g ∈ out, g.2.length ≤ b) → Fi.Ord (Fi.mapF m b out l) ∧ (∀ g ∈ Fi.mapF m b out l, g.2.length ≤ b) ∧ (Fi.mapF m b out l).length ≤ out.length + l.length := by
  intro l
  induction l with
  | nil => intro out h1 h2; exact ⟨h1, h2, Nat.le_refl _⟩
  | cons f r ih =>
    intro out h1 h2
    rw [map_step]
    split
    · have h3 := ih _ (ord_put h1 (f.1, f.2.take b)) (put_texts h2 (by simp only [List.length_take]; omega))
      have := put_len out (f.1, f.2.take b)
      exact ⟨h3.1, h3.2.1, by have := h3.2.2; rw [List.length_cons]; omega⟩
    · have h3 := ih _ h1 h2
      exact ⟨h3.1, h3.2.1, by have := h3.2.2; rw [List.length_cons]; omega⟩
/-- A map of at most six files with texts of at most two hundred bytes. -/
theorem map_keeps (l : List Fl) (m b : Nat) : Fi.Ord (Fi.map l m b) ∧ (∀ g ∈ Fi.map l m b, g.2.length ≤ b) ∧ (Fi.map l m b).length ≤ m := by
  have h := mapF_keeps m b (l.take m) [] ord_nil (by intro g hg; cases hg)
  refine ⟨h.1, h.2.1, ?_⟩
  have := h.2.2
  rw [List.length_take] at this
  unfold Fi.map
  simp only [List.length_nil] at this
  omega
end Go.Proofs.YtjfikkjaifdkiaaGreatDoor

namespace Go.Proofs.YtjfikkjaifdkiaaGreatDoor
open Go.RowKit

theorem sameO_plus (E : Ex.St) : sameO E (Ex.plus E) = true := by simp [sameO, Ex.plus]
/-- A box that holds an expansion, ever after. -/
theorem box9 {w1 V : World} {a b c d : Value} {E : Ex.St} (hV : V = w1.alloc (.cells #[a, b, c, d] 31)) (h : RdO w1 (.agg #[a, b, c, d]) E) {W' : World} (hb : Below V.heap.size V W') :
    (W'.cell? ⟨w1.heap.size, 0, none⟩ = some a ∧ W'.cell? ⟨w1.heap.size, 1, none⟩ = some b ∧ W'.cell? ⟨w1.heap.size, 2, none⟩ = some c ∧ W'.cell? ⟨w1.heap.size, 3, none⟩ = some d) ∧ RdO W' (.agg #[a, b, c, d]) E := by
  have hv : Below w1.heap.size w1 V := by rw [hV]; exact (Below.refl _ _).alloc (Nat.le_refl _) _
  have r : Ro V w1.heap.size 31 [a, b, c, d] := by rw [hV]; exact heap_alloc_new w1 _
  have r9 := r.kw (Kw.of_below hb) (by have := r.lt; omega)
  exact ⟨⟨r9.cell (i := 0) rfl, r9.cell (i := 1) rfl, r9.cell (i := 2) rfl, r9.cell (i := 3) rfl⟩, h.below' (hv.trans (hb.mono hv.size))⟩

end Go.Proofs.YtjfikkjaifdkiaaGreatDoor
