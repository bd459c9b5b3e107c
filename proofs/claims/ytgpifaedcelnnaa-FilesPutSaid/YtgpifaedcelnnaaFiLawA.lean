
/- 'FilesRight', walked: it answers true at every input. No condition. -/
import Derived.Test.YtgpifaedcelnnaaFiMap
namespace Go.Proofs.Ytgpifaedcelnnaa
open Go.RowKit

/-- May each file be? -/
abbrev OkAll (l : List Fl) : Prop := ∀ f ∈ l, Fi.okName f.1 = true ∧ f.2.length ≤ 4000
theorem rightF_iff : ∀ (l : List Fl) (p : Option (List UInt8)), Fi.rightF p l = true ↔ OkAll l ∧ Fi.Ord l ∧ ∀ q, p = some q → ∀ f ∈ l, Lib.compareBytes q f.1 < 0 := by
  intro l
  induction l with
  | nil =>
    intro p
    constructor
    · intro _
      exact ⟨fun f hf => (List.not_mem_nil hf).elim, ord_nil, fun q _ f hf => (List.not_mem_nil hf).elim⟩
    · intro _
      cases p <;> rfl
  | cons x r ih =>
    intro p
    have e : Fi.rightF p (x :: r) = (Fi.okName x.1 && decide (x.2.length ≤ 4000) && (match p with | none => true | some q => decide (Lib.compareBytes q x.1 < 0)) && Fi.rightF (some x.1) r) := by cases p <;> rfl
    rw [e, Bool.and_eq_true, Bool.and_eq_true, Bool.and_eq_true, ih, decide_eq_true_iff]
    have ho : Fi.Ord (x :: r) ↔ (∀ f ∈ r, Lib.compareBytes x.1 f.1 < 0) ∧ Fi.Ord r := by
      unfold Fi.Ord Sorted Fi.names
      rw [List.map_cons, List.pairwise_cons]
      constructor
      · rintro ⟨h1, h2⟩
        exact ⟨fun f hf => h1 _ (List.mem_map.2 ⟨f, hf, rfl⟩), h2⟩
      · rintro ⟨h1, h2⟩
        refine ⟨fun a ha => ?_, h2⟩
        obtain ⟨f, hf, rfl⟩ := List.mem_map.1 ha
        exact h1 f hf
    rw [ho]
    constructor
    · rintro ⟨⟨⟨h1, h2⟩, h3⟩, h4, h5, h6⟩
      refine ⟨fun f hf => ?_, ⟨h6 _ rfl, h5⟩, fun q hq f hf => ?_⟩
      · rcases List.mem_cons.1 hf with rfl | hf
        · exact ⟨h1, h2⟩
        · exact h4 f hf
      · subst hq
        have h7 : Lib.compareBytes q x.1 < 0 := of_decide_eq_true h3
        rcases List.mem_cons.1 hf with rfl | hf
        · exact h7
        · exact cb_trans h7 (h6 _ rfl f hf)
    · rintro ⟨h1, ⟨h2, h3⟩, h4⟩
      refine ⟨⟨h1 x (List.mem_cons_self ..), ?_⟩, fun f hf => h1 f (List.mem_cons_of_mem _ hf), h3, fun q hq f hf => by injection hq with hq; subst hq; exact h2 f hf⟩
      cases p with
      | none => rfl
      | some q => exact decide_eq_true (h4 q rfl x (List.mem_cons_self ..))
theorem right_iff9 (l : List Fl) : Fi.right l = true ↔ OkAll l ∧ Fi.Ord l ∧ l.length ≤ 32 := by
  unfold Fi.right
  rw [Bool.and_eq_true, rightF_iff, decide_eq_true_iff]
  constructor
  · rintro ⟨⟨h1, h2, _⟩, h3⟩; exact ⟨h1, h2, h3⟩
  · rintro ⟨h1, h2, h3⟩; exact ⟨⟨h1, h2, fun q hq => by cases hq⟩, h3⟩
theorem put_ok {l : List Fl} {f : Fl} (hl : OkAll l) (hn : l.length ≤ 32) (h : (Fi.put l f).2 = 0) : OkAll (Fi.put l f).1 ∧ (Fi.put l f).1.length ≤ 32 := by
  unfold Fi.put at h ⊢
  split
  · rename_i h1; rw [if_pos h1] at h; simp at h
  · rename_i h1
    rw [if_neg h1] at h
    split
    · rename_i h2; rw [if_pos h2] at h; simp at h
    · rename_i h2
      have hf : Fi.okName f.1 = true ∧ f.2.length ≤ 4000 := ⟨by simpa using h1, by omega⟩
      unfold Fi.putL
      cases hq : Fi.has l f.1
      · have h3 : l.length < 32 := by
          rcases Nat.lt_or_ge l.length 32 with h4 | h4
          · exact h4
          · exact absurd (.inr ⟨hq, h4⟩) h2
        simp only [Bool.false_eq_true, if_false]
        refine ⟨fun g hg => ?_, by rw [List.length_append, List.length_cons, List.length_take, List.length_drop]; omega⟩
        rcases List.mem_append.1 hg with hg | hg
        · exact hl g (List.mem_of_mem_take hg)
        · rcases List.mem_cons.1 hg with rfl | hg
          · exact hf
          · exact hl g (List.mem_of_mem_drop hg)
      · simp only [if_true]
        refine ⟨fun g hg => ?_, by rw [List.length_set]; exact hn⟩
        rcases List.mem_or_eq_of_mem_set hg with hg | rfl
        · exact hl g hg
        · exact hf
theorem mapF_ok (m b : Nat) : ∀ (l out : List Fl), OkAll out → Fi.Ord out → out.length ≤ 32 → OkAll (Fi.mapF m b out l) ∧ Fi.Ord (Fi.mapF m b out l) ∧ (Fi.mapF m b out l).length ≤ 32 := by
  intro l
  induction l with
  | nil => intro out h1 h2 h3; exact ⟨h1, h2, h3⟩
  | cons f r ih =>
    intro out h1 h2 h3
    rw [map_step]
    split
    · rename_i h
      have hp := put_ok h1 h3 h
      exact ih _ hp.1 (ord_put h2 _) hp.2
    · exact ih _ h1 h2 h3
theorem map_ok (l : List Fl) (m b : Nat) : OkAll (Fi.map l m b) ∧ Fi.Ord (Fi.map l m b) ∧ (Fi.map l m b).length ≤ 32 := mapF_ok m b _ [] (by intro f hf; cases hf) ord_nil (by simp)
theorem map_right (l : List Fl) (m b : Nat) : Fi.right (Fi.map l m b) = true := (right_iff9 _).2 (map_ok l m b)
theorem okName_le {s : List UInt8} (h : Fi.okName s = true) : s.length ≤ 24 := by
  unfold Fi.okName at h
  simp only [Bool.and_eq_true, decide_eq_true_eq] at h
  exact h.2.2
/-- What 'Cut' makes of a file. -/
def fcut (f : Fl) : Fl := (f.1.take 40, f.2.take 4100)

set_option maxRecDepth 20000 in
set_option maxHeartbeats 4000000 in
/-- 'FilesRight'. -/
theorem filesRight_any (v : Value) (l : List Fl) (w : World) (hl : Rf w v l) (hs : ∀ f ∈ l, f.1.length ≤ 9223372036854775807 ∧ f.2.length ≤ 9223372036854775807) :
    Calls Try.prog 4 #[v] w fun e w' => e = .returned (.bool true) ∧ Below w.heap.size w w' := by
  obtain ⟨a0, c0, rfl⟩ := hl.shape
  have HL := Lib.hid hl
  have HS := Lib.hid hs
  clear hl hs
  go_enter Try.func4, Try.ntmps4
  go_wp2_with fail
  go_loopw [3, 4] (fun v i wr => ∃ k : Nat, k ≤ l.length ∧ k ≤ 40 ∧ i = .int .i64 k ∧ wr.ownsRow w.heap.size 25 2 v k (fcs ((l.take k).map fcut)) ∧ Below w.heap.size w wr) (fun _ i _ => l.length - (intOf i).toNat)
  case atStart => exact ⟨0, Nat.zero_le _, Nat.zero_le _, rfl, World.ownsRow_made w #[] 0 (Nat.le_refl _) (by decide) rfl, (Below.refl _ _).alloc (Nat.le_refl _) _⟩
  case round =>
    obtain ⟨k, hk, hkm, rfl, hown, hbw⟩ := hrel
    have hsz := hbw.size
    by_cases hin : k < l.length ∧ k < 40
    · obtain ⟨hlt, hlm⟩ := hin
      obtain ⟨b1, o1, rfl, c10, c11⟩ := (HL.out.below' hbw).at hlt
      have hsk := HS.out _ (List.getElem_mem hlt)
      have HTS := Lib.hid (show (l.take (k + 1)).map fcut = (l.take k).map fcut ++ [fcut l[k]] by rw [take_snoc l k hlt, List.map_append]; rfl)
      obtain ⟨⟨nm, tx⟩, hx⟩ : ∃ x, x = l[k] := ⟨_, rfl⟩
      rw [← hx] at c10 c11 hsk HTS
      clear hx
      have hk40 : (k : Int) < 40 := by omega
      have hki : (k : Int) < (l.length : Int) := by omega
      go_wp2_with (first
        | (go_at_call 9; (with_reducible refine (fcut_any (nm, tx) _ hsk).mono ?_); rintro e w2 ⟨rfl, b2⟩; have o2 := own_below hown (own_under hown) b2; have B2 := hbw.trans (b2.mono hsz))
        | (at_builtin; refine wp_app tyF rfl _ _ rfl w.heap.size o2 rfl rfl rfl rfl fc_one (by omega) (by omega) B2.size ?_; intro v3 w3 o3 b3 _)
        | fail)
      go_roundw
      case rel => exact ⟨k + 1, by omega, by omega, by go_num, (by rw [HTS.out, fcs_snoc]; exact o3), B2.trans b3⟩
      case measure => simp [intOf]; omega
    · obtain ⟨m, hm⟩ : ∃ m, m = (l.take k).map fcut := ⟨_, rfl⟩
      have hml : m.length = k := by rw [hm, List.length_map, List.length_take]; omega
      have hme : ∀ f ∈ m, f.1.length ≤ 40 ∧ f.2.length ≤ 4100 := by
        intro f hf
        rw [hm] at hf
        obtain ⟨g, _, rfl⟩ := List.mem_map.1 hf
        simp only [fcut, List.length_take]
        omega
      rw [← hm] at hown
      clear hm
      have HME := Lib.hid hme
      clear hme
      have rm : Rf wr u3 m := by
        have h1 := own_rd hown
        rw [← hml] at h1; exact h1
      obtain ⟨r, hr⟩ : ∃ r, r = Fi.right m := ⟨_, rfl⟩
      have HR := Lib.hid hr
      have HMR := Lib.hid (map_right m 40 4100)
      have hmk := map_ok m 40 4100
      obtain ⟨mp, hmp⟩ : ∃ mp, mp = Fi.map m 40 4100 := ⟨_, rfl⟩
      rw [← hmp] at HMR hmk
      have HMP := Lib.hid hmp
      obtain ⟨hk1, _, hk3⟩ := hmk
      have HK1 := Lib.hid hk1
      have hrr : (r == r) = true := by simp
      clear hr hmp hk1 hown
      have hstop : k = l.length ∨ (k < l.length ∧ k = 40) := by omega
      have hdec : decide ((k : Int) < (l.length : Int)) = false ∨ decide ((k : Int) < 40) = false := by
        rcases hstop with h | ⟨_, h⟩
        · left; simp; omega
        · right; simp; omega
      rcases hstop with rfl | ⟨h, rfl⟩
      all_goals (
        go_wp2_with fail
        (with_reducible refine (fright_any _ m _ rm (by omega) (fun f hf => Nat.le_trans (HME.out f hf).1 (by decide))).mono ?_); rintro e w2 ⟨rfl, b2⟩
        rw [← HR.out]
        have rm2 := rm.below' b2
        have B2 := hbw.trans (b2.mono hsz)
        go_wp2_with fail
        (with_reducible refine (refRight_any _ m _ rm2 (by omega) (fun f hf => Nat.le_trans (HME.out f hf).1 (by decide))).mono ?_); rintro e w3 ⟨rfl, b3⟩
        rw [← HR.out]
        have rm3 := rm2.below' b3
        have B3 := B2.trans (b3.mono B2.size)
        have hMap := refMap_any _ m 40 4100 _ rm3 (by decide) (by decide) (fun f hf => ⟨Nat.le_trans (HME.out f hf).1 (by decide), Nat.le_trans (HME.out f hf).2 (by decide)⟩)
        simp only [Int.cast_ofNat_Int] at hMap
        have HMap := Lib.hid hMap
        clear hMap
        go_wp2_with fail
        (with_reducible refine HMap.out.mono ?_); rintro e w4 ⟨v4, rfl, o4, b4⟩
        rw [← HMP.out] at o4
        have r4 := rf_own o4
        have B4 := B3.trans (b4.mono B3.size)
        go_wp2_with fail
        (with_reducible refine (fright_any _ mp _ r4 (by omega) (fun f hf => Nat.le_trans (okName_le (HK1.out f hf).1) (by decide))).mono ?_); rintro e w5 ⟨rfl, b5⟩
        rw [HMR.out]
        have B5 := B4.trans (b5.mono B4.size)
        go_wp2_with fail
        (with_reducible refine (fiFixed_any _).mono ?_); rintro e w6 ⟨rfl, b6⟩
        go_wp2_with fail
        go_ret
        exact ⟨rfl, B5.trans (b6.mono B5.size)⟩
      )

end Go.Proofs.Ytgpifaedcelnnaa
