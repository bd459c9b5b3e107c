
/- The macro layer: lists of macros in memory; Clone, own; what a name is. No condition. -/
import Derived.Test.YtkpdhpbnbpjceaaMacFlat
import Derived.Test.YtkpdhpbnbpjceaaMacArgs
namespace Go.Proofs.Ytkpdhpbnbpjceaa
open Go.RowKit

/-- A macro: a name, parameters, a body. -/
abbrev Mac := List UInt8 × Int × List Lx.Tok
/-- The cells of macros, with where their bodies lie. -/
def mc (p : Mac × Value) : List Value := [.string (S p.1.1), .int .i64 p.1.2.1, p.2]
def mcs (ps : List (Mac × Value)) : List Value := ps.flatMap mc
theorem mcs_length (ps : List (Mac × Value)) : (mcs ps).length = ps.length * 3 := by
  induction ps with
  | nil => rfl
  | cons t l ih => simp only [mcs, List.flatMap_cons, List.length_append, List.length_cons] at ih ⊢; simp only [mc, List.length_cons, List.length_nil]; omega
theorem mcs_append (a b : List (Mac × Value)) : mcs (a ++ b) = mcs a ++ mcs b := by simp [mcs]
theorem mcs_at (ps : List (Mac × Value)) (i : Nat) (h : i < ps.length) : (mcs ps)[i * 3]? = some (.string (S ps[i].1.1)) ∧ (mcs ps)[i * 3 + 1]? = some (.int .i64 ps[i].1.2.1) ∧ (mcs ps)[i * 3 + 2]? = some ps[i].2 := by
  induction ps generalizing i with
  | nil => simp at h
  | cons t l ih =>
    cases i with
    | zero => simp [mcs, mc]
    | succ i =>
      have := ih i (by simpa using h)
      have e : mcs (t :: l) = .string (S t.1.1) :: .int .i64 t.1.2.1 :: t.2 :: mcs l := by simp [mcs, mc]
      rw [e, show (i + 1) * 3 = i * 3 + 1 + 1 + 1 by omega]
      simpa using this
theorem mcs_set (ps : List (Mac × Value)) (i : Nat) (h : i < ps.length) (b : Value) : (mcs ps).set (i * 3 + 2) b = mcs (ps.set i (ps[i].1, b)) := by
  induction ps generalizing i with
  | nil => simp at h
  | cons t l ih =>
    cases i with
    | zero => simp [mcs, mc]
    | succ i =>
      have hi : i < l.length := by simpa using h
      have := ih i hi
      have e : ∀ (t : Mac × Value) l, mcs (t :: l) = .string (S t.1.1) :: .int .i64 t.1.2.1 :: t.2 :: mcs l := fun t l => by simp [mcs, mc]
      rw [e, show (i + 1) * 3 + 2 = i * 3 + 2 + 1 + 1 + 1 by omega]
      simp only [List.set_cons_succ, List.getElem_cons_succ, e, this]

/-- The cells of a macro that is read. -/
theorem mac_at {w : World} {a : Option Addr} {n c : Nat} {ps : List (Mac × Value)} (h : Rd w 3 (.slice a n c) ps.length (mcs ps)) {i : Nat} (hi : i < ps.length) :
    ∃ b o, a = some ⟨b, o, none⟩ ∧ w.cell? ⟨b, o + i * 3, none⟩ = some (.string (S ps[i].1.1)) ∧ w.cell? ⟨b, o + i * 3 + 1, none⟩ = some (.int .i64 ps[i].1.2.1) ∧ w.cell? ⟨b, o + i * 3 + 2, none⟩ = some ps[i].2 := by
  rcases h.2 with ⟨_, h2⟩ | ⟨b, o, cap, hv, hlt, hc, _⟩
  · omega
  · cases hv
    have := mcs_at ps i hi
    exact ⟨b, o, rfl, hc _ _ this.1, hc _ _ this.2.1, hc _ _ this.2.2⟩

theorem tyMac : SlTy Try.prog 51 55 3 48 := SlTy.mk' (z := .agg #[.string ⟨#[]⟩, .int .i64 0, .slice none 0 0]) Try.underlying51 (by kernel_rfl) rfl (by decide)

/-- Bodies lie where v does not. -/
def Bod (w : World) (v : Value) (ps : List (Mac × Value)) : Prop := ∀ p ∈ ps, Rt w p.2 p.1.2.2 ∧ p.1.2.2.length ≤ 1000000 ∧ (0 < p.1.2.2.length → ∀ b, p.2.ownBlock = some b → b < w.heap.size ∧ v.ownBlock ≠ some b)
/-- The call owns a row of macros. -/
def OwnM (w : World) (B : Nat) (v : Value) (ps : List (Mac × Value)) : Prop := w.ownsRow B 55 3 v ps.length (mcs ps) ∧ Bod w v ps

/-- What is read stays where a block turns in which it does not lie. -/
theorem Rt.apart {w w' : World} {row : Option Nat} {v : Value} {l : List Lx.Tok} (h : Rt w v l) (hg : w.grownBy w' row) (hne : 0 < l.length → ∀ b, v.ownBlock = some b → some b ≠ row) : Rt w' v l := by
  by_cases h0 : 0 < l.length
  · exact Rd.grown h hg (hne h0)
  · have hl : l = [] := List.eq_nil_of_length_eq_zero (by omega)
    subst hl
    refine ⟨rfl, .inl ?_⟩
    rcases h.2 with h2 | ⟨b, o, cap, hv, _⟩
    · exact h2
    · exact ⟨.inr ⟨_, _, hv⟩, rfl⟩
theorem Bod.below {w w' : World} {v : Value} {ps : List (Mac × Value)} (h : Bod w v ps) (hb : Below w.heap.size w w') : Bod w' v ps :=
  fun p hp => ⟨(h p hp).1.below' hb, (h p hp).2.1, fun h0 b hb' => ⟨Nat.lt_of_lt_of_le ((h p hp).2.2 h0 b hb').1 hb.size, ((h p hp).2.2 h0 b hb').2⟩⟩
theorem OwnM.below {w w' : World} {B : Nat} {v : Value} {ps : List (Mac × Value)} (h : OwnM w B v ps) (hb : Below w.heap.size w w') : OwnM w' B v ps :=
  ⟨own_below h.1 (own_under h.1) hb, h.2.below hb⟩

theorem mcs_one {w : World} {v : Value} {ps : List (Mac × Value)} (h : Bod w v ps) : ∀ u ∈ mcs ps, u.oneCell' = true := by
  intro u hu
  simp only [mcs, List.mem_flatMap, mc, List.mem_cons, List.not_mem_nil, or_false] at hu
  obtain ⟨p, hp, rfl | rfl | rfl⟩ := hu
  · rfl
  · rfl
  · obtain ⟨a, c, e⟩ := (h p hp).1.shape
    rw [e]; rfl

set_option maxHeartbeats 1000000 in
/-- 'slices.Clone' of macros: the row is new, the bodies are the old ones. -/
theorem clone_mac (v : Value) (ps : List (Mac × Value)) (w : World) (hl : Rd w 3 v ps.length (mcs ps)) (hlen : ps.length ≤ 1000000000) (hone : ∀ u ∈ mcs ps, u.oneCell' = true) :
    Calls Try.prog 42 #[v] w fun e w' => ∃ v', e = .returned v' ∧ w'.ownsRow w.heap.size 55 3 v' ps.length (mcs ps) ∧ Below w.heap.size w w' := by
  obtain ⟨a0, c0, rfl⟩ := hl.shape
  have q22 : ∀ (w : World) (a : Option Addr) (n c n' c' : Nat), (binOp .eql 51 (.slice a n c) (.slice none n' c')).run Try.prog w = .ok (.bool a.isNone) w := fun w a n c n' c' => Lib.run_eql_slice_nil w _ _ a n c n' c' Try.underlying51
  cases a0 with
  | none =>
    have h0 : ps = [] := by
      rcases hl.2 with ⟨_, h0⟩ | ⟨b, o, cap, hv, _⟩
      · exact List.eq_nil_of_length_eq_zero h0
      · cases hv
    subst h0
    clear hl
    go_enter Try.func42, Try.ntmps42
    go_wp2_with fail
    go_ret
    exact ⟨_, rfl, World.ownsRow_nil _ _ _ _, Below.refl _ _⟩
  | some a0 =>
    have A := Lib.hid hl
    clear hl
    go_enter Try.func42, Try.ntmps42
    go_wp2_with (at_builtin; refine wp_app_all tyMac rfl _ _ rfl w.heap.size (World.ownsRow_made w #[] 0 (Nat.le_refl _) (Nat.zero_le _) (by simp)) (Rd.below' A.out ((Below.refl _ _).alloc (Nat.le_refl _) _)) rfl rfl hone (by omega) (by omega) (by simp) ?_; intro v2 w2 hown2 hb2 hg2)
    go_ret
    exact ⟨_, rfl, by simpa using hown2, ((Below.refl _ w).alloc (Nat.le_refl _) _).trans hb2⟩

/-- A cell of what the call owns, set: rows of k cells. -/
theorem own_setk {w : World} {base e n g c k : Nat} {xs : List Value} (h : w.ownsRow base e k (.slice (some ⟨g, 0, none⟩) n c) n xs) (j : Nat) (x : Value) :
    (w.setCell ⟨g, j, none⟩ x).ownsRow base e k (.slice (some ⟨g, 0, none⟩) n c) n (xs.set j x) := by
  refine ⟨by rw [List.length_set]; exact h.1, ?_⟩
  rcases h.2 with ⟨h2, _⟩ | ⟨g', cap, cur, hv, hb, hg, hn, hc, hs, ht⟩
  · cases h2
  · cases hv
    refine .inr ⟨g, c, cur.set! j x, rfl, hb, row_set hg j x, hn, hc, by simp [hs], ?_⟩
    rw [← ht]
    simp [List.take_set]

theorem setCell_grown (w : World) (p : Addr) (x : Value) : w.grownBy (w.setCell p x) (some p.block) := by
  refine ⟨rfl, rfl, rfl, by simp [World.setCell], fun k _ hne => ?_⟩
  simp only [World.setCell]
  rw [Array.getElem?_modify]
  rw [if_neg (fun e => hne (by rw [e]))]

set_option maxRecDepth 20000 in
set_option maxHeartbeats 1600000 in
/-- 'own': macros whose bodies are their own. -/
theorem own_any (B : Nat) (v : Value) (ps : List (Mac × Value)) (w : World) (hl : OwnM w B v ps) (hlen : ps.length ≤ 1000000) (hB : B ≤ w.heap.size) :
    Calls Try.prog 45 #[v] w fun e w' => ∃ v' ps', e = .returned v' ∧ ps'.map Prod.fst = ps.map Prod.fst ∧ OwnM w' B v' ps' ∧ Below B w w' := by
  go_enter Try.func45, Try.ntmps45
  obtain ⟨a0, c0, rfl⟩ := own_shape hl.1
  obtain ⟨hlr, hlb⟩ := hl
  obtain ⟨n, hn⟩ : ∃ n, n = ps.length := ⟨_, rfl⟩
  rw [← hn] at hlr hlb hlen ⊢
  have HL := Lib.hid hn
  clear hn
  go_wp2_with fail
  go_loopw [6] (fun i wr => ∃ (k : Nat) (qs : List (Mac × Value)), k ≤ n ∧ i = .int .i64 k ∧ Hid (qs.length = n) ∧ Hid (qs.map Prod.fst = ps.map Prod.fst) ∧ wr.ownsRow B 55 3 (.slice a0 n c0) n (mcs qs) ∧ Bod wr (.slice a0 n c0) qs ∧ Below B w wr) (fun i _ => n - (intOf i).toNat)
  case atStart => exact ⟨0, ps, Nat.zero_le _, rfl, Lib.hid HL.out.symm, rfl, hlr, hlb, Below.refl _ _⟩
  case round =>
    obtain ⟨k, qs, hk, rfl, HQ, HM, hrow, hbo, hbw⟩ := hrel
    have hsz := hbw.size
    by_cases hlt : k < n
    · have hkq : k < qs.length := by have := HQ.out; omega
      rcases hrow.2 with ⟨_, h0⟩ | ⟨g, cap, cur, hv, hgB, hgr, _⟩
      · omega
      · cases hv
        have hlq : (qs[k].1.2.2).length ≤ 1000000 := (hbo _ (List.getElem_mem hkq)).2.1
        have hb := (hbo _ (List.getElem_mem hkq)).1
        obtain ⟨ab, cb, hbv⟩ := hb.shape
        have hcell : wr.cell? ⟨g, k * 3 + 2, none⟩ = some (.slice ab (qs[k].1.2.2).length cb) := by rw [← hbv]; exact own_at hrow (mcs_at qs k hkq).2.2
        rw [hbv] at hb
        have hgl := row_lt hgr
        clear hlr hlb
        go_wp2_with fail
        (with_reducible refine (clone_tok _ _ wr hb (by omega)).mono ?_); rintro e w2 ⟨cv, rfl, hcv, b2⟩
        obtain ⟨a1, c1, rfl⟩ := own_shape hcv
        have hs2 := b2.size
        have hrow2 := own_below hrow (own_under hrow) b2
        have hfr := own_free hrow2 (k * 3 + 2)
        have hcell2 : w2.cell? ⟨g, k * 3 + 2, none⟩ = some (.slice ab (qs[k].1.2.2).length cb) := by rw [← hbv]; exact own_at hrow2 (mcs_at qs k hkq).2.2
        have hset := own_setk hrow2 (k * 3 + 2) (.slice a1 (qs[k].1.2.2).length c1)
        rw [mcs_set qs k hkq] at hset
        have bw2 := hbw.trans (b2.mono (by omega : B ≤ wr.heap.size))
        have bset := bw2.setCell (p := ⟨g, k * 3 + 2, none⟩) hgB (.slice a1 (qs[k].1.2.2).length c1)
        have hbod : Bod (w2.setCell ⟨g, k * 3 + 2, none⟩ (.slice a1 (qs[k].1.2.2).length c1)) (.slice (some ⟨g, 0, none⟩) n c0) (qs.set k (qs[k].1, .slice a1 (qs[k].1.2.2).length c1)) := by
          have hgs := setCell_grown w2 ⟨g, k * 3 + 2, none⟩ (.slice a1 (qs[k].1.2.2).length c1)
          have hbo := hbo.below b2
          intro p hp
          rcases List.mem_or_eq_of_mem_set hp with hp | rfl
          · have h3 := hbo p hp
            refine ⟨h3.1.apart hgs fun h0 b hb e => (h3.2.2 h0 b hb).2 (by cases e; rfl), h3.2.1, fun h0 b hb => ⟨by simpa [World.setCell] using (h3.2.2 h0 b hb).1, (h3.2.2 h0 b hb).2⟩⟩
          · refine ⟨Rt.apart (own_rd hcv) hgs fun h0 b hb e => ?_, hlq, fun h0 b hb => ⟨by simpa [World.setCell] using (hcv.lt b hb).2, fun e => ?_⟩⟩
            · injection e with e; have e : b = g := e; have := (hcv.lt b hb).1; omega
            · have e : some g = some b := e; injection e with e; have := (hcv.lt b hb).1; omega
        go_wp2_with fail
        go_roundw
        case rel => exact ⟨k + 1, _, by omega, by go_num, Lib.hid (by rw [List.length_set]; exact HQ.out), Lib.hid (by
            rw [← HM.out, List.map_set]
            apply List.ext_getElem
            · simp
            · intro i h1 h2
              rw [List.getElem_set]
              split
              · rename_i h; subst h; simp
              · rfl), hset, hbod, bset⟩
        case measure => simp [intOf]; omega
    · obtain rfl : k = n := by omega
      go_wp2_with fail
      go_ret
      exact ⟨_, qs, rfl, HM.out, ⟨by rw [HQ.out]; exact hrow, hbo⟩, hbw⟩

end Go.Proofs.Ytkpdhpbnbpjceaa
