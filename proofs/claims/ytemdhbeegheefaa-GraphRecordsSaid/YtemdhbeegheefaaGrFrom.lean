
/- 'from' of the finder, walked. No condition. -/
import Derived.Test.YtemdhbeegheefaaGrGd
import Derived.Deep.LoopGhost
namespace Go.Proofs.Ytemdhbeegheefaa
open Go.RowKit Gr

theorem has_any (a : Option Addr) (n c : Nat) (z : Int) (w : World) : Calls Try.prog 25 #[.slice a n c, .int .i64 z] w fun e w' => e = .returned (.bool (decide (0 ≤ z) && decide (z < (n : Int)))) ∧ w' = w := by
  go_enter Try.func25, Try.ntmps25
  cases h1 : decide (0 ≤ z)
  · have h2 : ¬ 0 ≤ z := of_decide_eq_false h1
    go_wp2_with fail
    go_ret
    exact ⟨ret_bool (by simp), rfl⟩
  · have h2 : 0 ≤ z := of_decide_eq_true h1
    cases h3 : decide (z < (n : Int))
    · have h4 : ¬ z < (n : Int) := of_decide_eq_false h3
      go_wp2_with fail
      go_ret
      exact ⟨ret_bool (by simp), rfl⟩
    · have h4 : z < (n : Int) := of_decide_eq_true h3
      go_wp2_with fail
      go_ret
      exact ⟨ret_bool (by simp), rfl⟩

/-- The cells of frames. -/
def fr (f : Nat × Nat) : List Value := [.int .i64 f.1, .int .i64 f.2]
def frs (l : List (Nat × Nat)) : List Value := l.flatMap fr
theorem frs_len (l : List (Nat × Nat)) : (frs l).length = l.length * 2 := by
  induction l with
  | nil => rfl
  | cons t l ih => simp only [frs, List.flatMap_cons, List.length_append, List.length_cons] at ih ⊢; simp only [fr, List.length_cons, List.length_nil]; omega
theorem frs_append (a b : List (Nat × Nat)) : frs (a ++ b) = frs a ++ frs b := by simp [frs]
theorem frs_snoc (a : List (Nat × Nat)) (v e : Nat) : frs (a ++ [(v, e)]) = frs a ++ [.int .i64 v, .int .i64 e] := by simp [frs, fr]
theorem frs_last (a : List (Nat × Nat)) (v e : Nat) : (frs (a ++ [(v, e)]))[a.length * 2]? = some (.int .i64 v) ∧ (frs (a ++ [(v, e)]))[a.length * 2 + 1]? = some (.int .i64 e) := by
  rw [frs_snoc]
  constructor
  · rw [List.getElem?_append_right (by rw [frs_len]; exact Nat.le_refl _), frs_len]; simp
  · rw [List.getElem?_append_right (by rw [frs_len]; omega), frs_len]; simp
theorem frs_set (a : List (Nat × Nat)) (v e x : Nat) : (frs (a ++ [(v, e)])).set (a.length * 2 + 1) (.int .i64 x) = frs (a ++ [(v, x)]) := by
  rw [frs_snoc, frs_snoc, List.set_append_right _ _ (by rw [frs_len]; omega), frs_len]
  simp
theorem frs_one {l : List (Nat × Nat)} : ∀ u ∈ frs l, u.oneCell' = true := by
  intro u hu
  simp only [frs, List.mem_flatMap, fr, List.mem_cons, List.not_mem_nil, or_false] at hu
  obtain ⟨t, _, rfl | rfl⟩ := hu <;> rfl
theorem tyFrame : SlTy Try.prog 85 83 2 16 := SlTy.mk' (z := .agg #[.int .i64 0, .int .i64 0]) Try.underlying85 (by kernel_rfl) rfl (by decide)

/-- Where a graph lies below B. -/
structure Gb (w : World) (B : Nat) (vg : Value) (g : G) : Prop where
  at0 : ∃ w0, Rg w0 vg g ∧ Below w0.heap.size w0 w ∧ w0.heap.size ≤ B
theorem Gb.rg {w : World} {B : Nat} {vg : Value} {g : G} (h : Gb w B vg g) : Rg w vg g := by
  obtain ⟨w0, h1, h2, _⟩ := h.at0
  exact h1.below' h2
theorem Gb.kw {w w' : World} {B : Nat} {vg : Value} {g : G} {p : Nat → Prop} (h : Gb w B vg g) (hk : Kw w w' p) (hp : ∀ j, p j → B ≤ j) : Gb w' B vg g := by
  obtain ⟨w0, h1, h2, h3⟩ := h.at0
  exact ⟨w0, h1, h2.trans (hk.below (fun j hj => Nat.le_trans h3 (hp j hj)) h2.size), h3⟩

/-- Rows of unlike elements lie apart. -/
theorem own_apart {w : World} {B B2 d e k k2 n n2 : Nat} {u : Value} {g : Nat} {c : Nat} {xs ys : List Value} (h : w.ownsRow B d k u n xs) (h2 : w.ownsRow B2 e k2 (.slice (some ⟨g, 0, none⟩) n2 c) n2 ys) (hde : d ≠ e) : ∀ b, u.ownBlock = some b → b ≠ g := by
  intro b hb e'
  subst e'
  rcases h2.2 with ⟨h0, _⟩ | ⟨g', cap, cur, hv, _, hg, _⟩
  · cases h0
  · cases hv
    exact (show Ro w b e cur.toList by rw [Ro]; simpa using hg).ne_own (Ne.symm hde) h hb
/-- A cell of the frames' row is set: the finder stays. -/
theorem Fd.frameSet {w : World} {B B1 : Nat} {A : At} {n : Nat} {vg vs : Value} {s : St} {gt cap m : Nat} {xs : List Value} (h : Fd w B A n vg vs s) (hr : w.ownsRow B1 83 2 (.slice (some ⟨gt, 0, none⟩) m cap) m xs) (j : Nat) (u : Value) : Fd (w.setCell ⟨gt, j, none⟩ u) B A n vg vs s :=
  h.kw (Kw.set w gt j u) (fun e => h.box.ne_own (by decide) hr (by rw [e]; rfl)) (fun e => h.ri.ne_own (by decide) hr (by rw [e]; rfl)) (fun e => h.rl.ne_own (by decide) hr (by rw [e]; rfl)) (fun e => h.ro.ne_own (by decide) hr (by rw [e]; rfl)) (fun e => h.rg.ne_own (by decide) hr (by rw [e]; rfl)) (own_apart h.stk hr (by decide))

/-- The finder turns: the frames' row stays. -/
theorem own_frames {w w' : World} {B B1 : Nat} {A : At} {n : Nat} {vg vs : Value} {s : St} {gt cap m : Nat} {xs : List Value} (h : Fd w B A n vg vs s) (hr : w.ownsRow B1 83 2 (.slice (some ⟨gt, 0, none⟩) m cap) m xs) (hk : Kw w w' (pF A vs)) : w'.ownsRow B1 83 2 (.slice (some ⟨gt, 0, none⟩) m cap) m xs :=
  hk.row hr fun b hb e => by
    injection hb with hb
    have hb : gt = b := hb
    subst hb
    rcases e with e | e | e | e | e | e
    · exact h.box.ne_own (by decide) hr (by rw [← e]; rfl)
    · exact h.ri.ne_own (by decide) hr (by rw [← e]; rfl)
    · exact h.rl.ne_own (by decide) hr (by rw [← e]; rfl)
    · exact h.ro.ne_own (by decide) hr (by rw [← e]; rfl)
    · exact h.rg.ne_own (by decide) hr (by rw [← e]; rfl)
    · exact own_apart h.stk hr (by decide) gt e rfl
/-- The frames' row turns: the finder stays. -/
theorem Fd.framesGrown {w w' : World} {B B1 : Nat} {A : At} {n : Nat} {vg vs : Value} {s : St} {gt cap m : Nat} {xs : List Value} (h : Fd w B A n vg vs s) (hr : w.ownsRow B1 83 2 (.slice (some ⟨gt, 0, none⟩) m cap) m xs) (hk : Kw w w' fun j => (Value.slice (some ⟨gt, 0, none⟩) m cap).ownBlock = some j) : Fd w' B A n vg vs s :=
  h.kw hk (h.box.ne_own (by decide) hr) (h.ri.ne_own (by decide) hr) (h.rl.ne_own (by decide) hr) (h.ro.ne_own (by decide) hr) (h.rg.ne_own (by decide) hr) fun b hb e => by
    injection e with e
    exact own_apart h.stk hr (by decide) b hb (show b = gt from e.symm)
/-- A frame of its own lies apart from the finder. -/
theorem Fd.notFrame {w : World} {B : Nat} {A : At} {n : Nat} {vg vs : Value} {s : St} {b : Nat} {cs : List Value} (h : Fd w B A n vg vs s) (hr : Ro w b 83 cs) : ¬ pF A vs b := fun e => by
  rcases e with e | e | e | e | e | e
  · exact h.box.ne hr (by decide) e.symm
  · exact h.ri.ne hr (by decide) e.symm
  · exact h.rl.ne hr (by decide) e.symm
  · exact h.ro.ne hr (by decide) e.symm
  · exact h.rg.ne hr (by decide) e.symm
  · exact hr.ne_own (by decide) h.stk e
theorem near_trans {w w2 : World} {a b c : Value} (h : Near w a b) (k : Near w2 b c) (hs : w.heap.size ≤ w2.heap.size) : Near w a c := by
  rcases k with k | ⟨g, k, hle⟩
  · rcases h with h | ⟨g, h, hle⟩
    · exact .inl (k.trans h)
    · exact .inr ⟨g, k.trans h, hle⟩
  · exact .inr ⟨g, k, Nat.le_trans hs hle⟩
/-- What a stack that came of another one owns. -/
theorem pF_near {w : World} {A : At} {vs vr : Value} (h : Near w vs vr) : ∀ j, j < w.heap.size → pF A vr j → pF A vs j := by
  intro j hj e
  rcases e with e | e | e | e | e | e
  · exact .inl e
  · exact .inr (.inl e)
  · exact .inr (.inr (.inl e))
  · exact .inr (.inr (.inr (.inl e)))
  · exact .inr (.inr (.inr (.inr (.inl e))))
  · rcases h with h | ⟨g, h, hle⟩
    · exact .inr (.inr (.inr (.inr (.inr (h.symm.trans e)))))
    · rw [h] at e; injection e with e; omega

set_option maxRecDepth 20000 in
set_option maxHeartbeats 8000000 in
/-- 'from'. -/
theorem from_any (B : Nat) (A : At) (g : G) (vg vs : Value) (s : St) (k : Nat) (w : World) (h : Fd w B A g.length vg vs s) (hg : Gb w B vg g) (hgd : Gd g s []) (hA : B ≤ A.f ∧ B ≤ A.i ∧ B ≤ A.l ∧ B ≤ A.o ∧ B ≤ A.g) (hn : g.length ≤ 100000) (hl : ∀ l ∈ g, l.length ≤ 100000) (hk : k < g.length) (h0 : s.idx.getD k 0 = 0) :
    Calls Try.prog 24 #[.pointer (some ⟨A.f, 0, none⟩), .int .i64 k] w fun e w' => e = .returned (.tuple #[]) ∧ ∃ vs' s', Fd w' B A g.length vg vs' s' ∧ Gd g s' [] ∧ Kw w w' (pF A vs) ∧ Near w vs vs' ∧ (∀ x, s.idx.getD x 0 ≠ 0 → s'.idx.getD x 0 ≠ 0) ∧ s'.idx.getD k 0 ≠ 0 := by
  have hBw : B ≤ w.heap.size := by have := h.box.lt; omega
  have HE := Lib.hid (enter_any B A g.length vg vs s k w h hk (by have := hgd.cntLe; omega) (by have := hgd.mn; have := hgd.cntLe; omega) hBw)
  have HGD := Lib.hid (hgd.enter hk h0 (by rw [hgd.iv.idle]; simp))
  have HG := Lib.hid hg
  obtain ⟨ag, cg, rfl⟩ := hg.rg.shape
  go_enter Try.func24, Try.ntmps24
  go_wp2_with fail
  go_step3
  go_wp2_with fail
  (with_reducible refine HE.out.mono ?_); rintro e w1 ⟨rfl, vs1, f1, k1, n1⟩
  have hw1 := k1.size
  go_wp2_with fail
  go_step3
  go_wp2_with fail
  have HG := Lib.hid hg
  have HGL := Lib.hid hl
  have HA := Lib.hid hA
  have HF1 := Lib.hid (f1.alloc (.cells #[.int .i64 (k : Int), .int .i64 0] 83))
  have HK1 := Lib.hid (k1.trans (Kw.alloc w1 (.cells #[.int .i64 (k : Int), .int .i64 0] 83) (pF A vs)) fun _ _ h => h)
  have HN1 := Lib.hid n1
  have HS1 : Hid ((∀ x, s.idx.getD x 0 ≠ 0 → (stEnter s k).idx.getD x 0 ≠ 0) ∧ (stEnter s k).idx.getD k 0 ≠ 0) := Lib.hid (by
    have e : ∀ x, (stEnter s k).idx.getD x 0 = if x = k then s.cnt + 1 else s.idx.getD x 0 := fun x => getD_set9 _ _ _ _ (by rw [hgd.li]; exact hk) x
    exact ⟨fun x hx => by rw [e]; split <;> omega, by rw [e, if_pos rfl]; omega⟩)
  have hBv : ∀ b, vs.ownBlock = some b → B ≤ b := fun b hb => (h.stk.lt b hb).1
  have HBV := Lib.hid hBv
  clear hg hl hA f1 k1 n1 h hgd HE h0 hBv
  go_loopg [4] (2 * (g.length - (s.cnt + 1)) + 1) (fun n vt wr => ∃ (vr : Value) (sr : St) (path : List (Nat × Nat)), Hid (2 * (g.length - sr.cnt) + path.length = n) ∧ wr.ownsRow w1.heap.size 83 2 vt path.length (frs path) ∧ Hid (Fd wr B A g.length (.slice ag g.length cg) vr sr) ∧ Hid (Gd g sr path) ∧ Hid (Kw w wr (pF A vs)) ∧ Hid (Near w vs vr) ∧ Hid ((∀ x, s.idx.getD x 0 ≠ 0 → sr.idx.getD x 0 ≠ 0) ∧ sr.idx.getD k 0 ≠ 0))
  case atStart => exact ⟨vs1, stEnter s k, [(k, 0)], Lib.hid rfl, ⟨rfl, .inr ⟨w1.heap.size, 1, _, rfl, Nat.le_refl _, heap_alloc_new _ _, Nat.le_refl _, by decide, rfl, rfl⟩⟩, HF1, HGD, HK1, HN1, HS1⟩
  case round =>
    clear HF1 HK1 HN1 HS1 HGD
    obtain ⟨vr, sr, path, HM, hrow, HF, HGD, HK, HNR, HSN⟩ := hrel
    have hpl : path.length ≤ 100000 := by have := HGD.out.pathLen; have := HGD.out.cntLe; omega
    rcases List.eq_nil_or_concat path with rfl | ⟨p0, ⟨v, e⟩, hp⟩
    · obtain ⟨a4, c4, rfl⟩ := own_shape hrow
      go_wp2_with fail
      rw [Exit.noGoto_normal]
      go_end0
      exact ⟨rfl, vr, sr, HF.out, HGD.out, HK.out, HNR.out, HSN.out⟩
    · rw [List.concat_eq_append] at hp
      subst hp
      obtain ⟨gt, cap, cur, rfl, hgt, hgc, hnc, hcm, hcs, ht⟩ := hrow.2.resolve_left (fun h0 => by simp at h0)
      have hvn : v < g.length := HGD.out.lt v (HGD.out.iv.grey (v, e) (by simp))
      have hll : (p0 ++ [(v, e)]).length = p0.length + 1 := by simp
      rw [hll] at hrow hnc ⊢
      have hp0 : p0.length ≤ 100000 := by simp at hpl; omega
      clear ht hcs hcm hgc cur hpl
      have HROW := Lib.hid hrow
      clear hrow
      go_wp2_with fail
      go_loopg [4] ((g.getD v []).length - e) (fun n vt wr2 => ∃ (vr2 : Value) (sr2 : St) (e2 : Nat), vt = .slice (some ⟨gt, 0, none⟩) (p0.length + 1) cap ∧ Hid ((g.getD v []).length - e2 = n) ∧ Hid (wr2.ownsRow w1.heap.size 83 2 (.slice (some ⟨gt, 0, none⟩) (p0.length + 1) cap) (p0.length + 1) (frs (p0 ++ [(v, e2)]))) ∧ Hid (Fd wr2 B A g.length (.slice ag g.length cg) vr2 sr2) ∧ Hid (Gd g sr2 (p0 ++ [(v, e2)])) ∧ Hid (sr2.cnt = sr.cnt) ∧ Hid (Kw w wr2 (pF A vs)) ∧ Hid (Near w vs vr2) ∧ Hid ((∀ x, s.idx.getD x 0 ≠ 0 → sr2.idx.getD x 0 ≠ 0) ∧ sr2.idx.getD k 0 ≠ 0))
      case atStart => exact ⟨vr, sr, e, rfl, Lib.hid rfl, HROW, HF, HGD, Lib.hid rfl, HK, HNR, HSN⟩
      case round =>
        clear HROW HF HGD HK HNR HSN
        obtain ⟨vr2, sr2, e2, rfl, HM2, HROW, HF, HGD, HCN, HK, HNR, HSN⟩ := hrel
        have HGW : Hid (Gb wr B (.slice ag g.length cg) g) := Lib.hid (HG.out.kw HK.out fun j hj => by
          obtain ⟨h1, h2, h3, h4, h5⟩ := HA.out
          rcases hj with rfl | rfl | rfl | rfl | rfl | hj <;> first | assumption | exact HBV.out _ hj)
        obtain ⟨b1, o1, u1, rfl, c1, r1, _, _⟩ := HGW.out.rg.at hvn
        have hgv : g.getD v [] = g[v] := by simp [hvn]
        have hgl : g[v].length ≤ 100000 := HGL.out _ (List.getElem_mem hvn)
        have HDEG := Lib.hid hgv
        rw [hgv] at HM2
        obtain ⟨row, hrw⟩ : ∃ row, row = g[v] := ⟨_, rfl⟩
        rw [← hrw] at r1 hgl HDEG HM2
        clear hrw hgv
        obtain ⟨au, cu, rfl⟩ := r1.shape
        have z0 := HF.out.box.cell (i := 0) rfl
        have t0 := own_at HROW.out (frs_last p0 v e2).1
        have t1 := own_at HROW.out (frs_last p0 v e2).2
        have ft := own_free HROW.out (p0.length * 2 + 1)
        have hvi : (v : Int) < (g.length : Int) := by omega
        by_cases he : e2 < row.length
        · have hei : (e2 : Int) < (row.length : Int) := by omega
          obtain ⟨b3, o3, rfl, c3⟩ := r1.at he
          have hge : (g.getD v [])[e2]? = some row[e2] := by rw [HDEG.out, List.getElem?_eq_getElem he]
          obtain ⟨z, hz⟩ : ∃ z, z = row[e2] := ⟨_, rfl⟩
          rw [← hz] at c3 hge
          clear hz
          have HGE := Lib.hid hge
          clear hge
          have z0m : ∀ m, (wr.drewN m).cell? ⟨A.f, 0, none⟩ = some (.slice (some ⟨b1, o1, none⟩) g.length cg) := fun _ => z0
          have t0m : ∀ m, (wr.drewN m).cell? ⟨gt, p0.length * 2, none⟩ = some (.int .i64 v) := fun _ => t0
          have t1m : ∀ m, (wr.drewN m).cell? ⟨gt, p0.length * 2 + 1, none⟩ = some (.int .i64 e2) := fun _ => t1
          have ftm : ∀ m, (wr.drewN m).frozen? ⟨gt, p0.length * 2 + 1, none⟩ = false := fun _ => ft
          have c1m : ∀ m, (wr.drewN m).cell? ⟨b1, o1 + v, none⟩ = some (.slice (some ⟨b3, o3, none⟩) row.length cu) := fun _ => c1
          have c3m : ∀ m, (wr.drewN m).cell? ⟨b3, o3 + e2, none⟩ = some (.int .i64 z) := fun _ => c3
          go_wp2_with fail
          go_quiet (fail)
          revert nq; intro m1
          go_wp2_with fail
          go_quiet (fail)
          revert nq; intro m2
          go_wp2_with fail
          obtain ⟨M, hM⟩ : ∃ M, M = m1 + m2 := ⟨_, rfl⟩
          rw [← hM]
          clear hM m1 m2
          have e5 : ((e2 + 1 : Nat) : Int) = (e2 : Int) + 1 := by omega
          have HROW5 := own_setk (own_drewN HROW.out M) (p0.length * 2 + 1) (.int .i64 ((e2 : Int) + 1))
          rw [← e5, frs_set, e5] at HROW5
          have HF5 := (HF.out.drewN M).frameSet (own_drewN HROW.out M) (p0.length * 2 + 1) (.int .i64 ((e2 : Int) + 1))
          have hgtw : w.heap.size ≤ gt := Nat.le_trans hw1 hgt
          have K5 := (HK.out.trans (Kw.drewN wr M _) fun _ _ h => h).trans (Kw.set (wr.drewN M) gt (p0.length * 2 + 1) (.int .i64 ((e2 : Int) + 1))) fun j hj e => absurd hj (by omega)
          obtain ⟨W5, hW5⟩ : ∃ W, W = (wr.drewN M).setCell ⟨gt, p0.length * 2 + 1, none⟩ (.int .i64 ((e2 : Int) + 1)) := ⟨_, rfl⟩
          rw [← hW5] at HROW5 HF5 K5 ⊢
          clear hW5
          have HROW := Lib.hid HROW5
          have HF := Lib.hid HF5
          have HK := Lib.hid K5
          clear HROW5 HF5 K5 z0 t0 t1 ft c1 c3 z0m t0m t1m ftm c1m c3m r1
          have hhas := has_any (some ⟨b1, o1, none⟩) g.length cg z W5
          by_cases hz : 0 ≤ z ∧ z < (g.length : Int)
          · rw [decide_eq_true hz.1, decide_eq_true hz.2] at hhas
            have HHAS := Lib.hid hhas
            obtain ⟨kk, rfl⟩ : ∃ kk : Nat, z = (kk : Int) := ⟨z.toNat, by omega⟩
            have hkk : kk < g.length := by omega
            clear hhas hz
            (with_reducible refine HHAS.out.mono ?_); rintro e w6 ⟨rfl, rfl⟩
            have x1 := HF.out.box.cell (i := 1) rfl
            have i1 := HF.out.ri.cell (nn_at _ kk (by rw [HF.out.li]; exact hkk))
            have hki : (kk : Int) < (g.length : Int) := by omega
            have HIX : Hid (sr2.idx.getD kk 0 = sr2.idx[kk]'(by rw [HF.out.li]; exact hkk)) := Lib.hid (by simp [HF.out.li, hkk])
            obtain ⟨q, hq⟩ : ∃ q, q = sr2.idx[kk]'(by rw [HF.out.li]; exact hkk) := ⟨_, rfl⟩
            rw [← hq] at i1 HIX
            clear hq
            by_cases hq0 : q = 0
            · subst hq0
              have HEN := Lib.hid (enter_any B A g.length (.slice (some ⟨b1, o1, none⟩) g.length cg) vr2 sr2 kk w6 HF.out hkk (by have := HGD.out.cntLe; omega) (by have := HGD.out.mn; have := HGD.out.cntLe; omega) (Nat.le_trans hBw HK.out.size))
              have HGN := Lib.hid (HGD.out.go HGE.out hkk HIX.out)
              have HCL := Lib.hid (HGD.out.cntLt hkk HIX.out)
              go_wp2_with fail
              (with_reducible refine HEN.out.mono ?_); rintro e w7 ⟨rfl, vr7, f7, k7, n7⟩
              have HROW7 := own_frames HF.out HROW.out k7
              have hsz7 : w1.heap.size ≤ w7.heap.size := by have := HROW7.lt gt rfl; omega
              have HF7 := Lib.hid f7
              have HK7 := Lib.hid k7
              have HN7 := Lib.hid n7
              clear f7 k7 n7
              go_wp2_with (first
                | (at_builtin; refine wp_app2 tyFrame rfl _ _ rfl w1.heap.size HROW7 rfl rfl rfl rfl (by intro u hu; simp at hu; rcases hu with rfl | rfl <;> rfl) (by omega) (by omega) hsz7 ?_; intro v8 w8 o8 b8 q8 n8)
                | fail)
              have HF8 := HF7.out.framesGrown HROW7 (Kw.of_grown q8)
              have hgtw' : ∀ j, j < w.heap.size → (Value.slice (some ⟨gt, 0, none⟩) (p0.length + 1) cap).ownBlock = some j → pF A vs j := fun j hj e => by
                injection e with e
                have e : gt = j := e
                omega
              have HK8 := (HK.out.trans HK7.out (pF_near HNR.out)).trans (Kw.of_grown q8) hgtw'
              have HS8 : (∀ x, s.idx.getD x 0 ≠ 0 → (stEnter sr2 kk).idx.getD x 0 ≠ 0) ∧ (stEnter sr2 kk).idx.getD k 0 ≠ 0 := by
                have e : ∀ x, (stEnter sr2 kk).idx.getD x 0 = if x = kk then sr2.cnt + 1 else sr2.idx.getD x 0 := fun x => getD_set9 _ _ _ _ (by rw [HF.out.li]; exact hkk) x
                refine ⟨fun x hx => ?_, ?_⟩
                · rw [e]; split
                  · omega
                  · exact HSN.out.1 x hx
                · rw [e]; split
                  · omega
                  · exact HSN.out.2
              go_roundg (2 * (g.length - (sr2.cnt + 1)) + (p0.length + 2))
              case measure =>
                have h1 := HM.out
                have h2 := HCN.out
                have h3 := HCL.out
                simp only [List.length_append, List.length_cons, List.length_nil] at h1
                omega
              case rel => exact ⟨vr7, stEnter sr2 kk, p0 ++ [(v, e2 + 1)] ++ [(kk, 0)], Lib.hid (by show 2 * (g.length - (sr2.cnt + 1)) + (p0 ++ [(v, e2 + 1)] ++ [(kk, 0)]).length = _; simp), (by rw [List.length_append, List.length_append, frs_append (p0 ++ [(v, e2 + 1)])]; exact o8), Lib.hid HF8, HGN, Lib.hid HK8, Lib.hid (near_trans HNR.out HN7.out HK.out.size), Lib.hid HS8⟩
            · have hqb : ((q : Int) == 0) = false := by simp; omega
              have HQ0 := Lib.hid hq0
              have x3 := HF.out.box.cell (i := 3) rfl
              have i3 := HF.out.ro.cell (i := kk) (u := .bool (sr2.on[kk]'(by rw [HF.out.lo]; exact hkk))) (by simp)
              have HON : Hid (sr2.on.getD kk false = sr2.on[kk]'(by rw [HF.out.lo]; exact hkk)) := Lib.hid (by simp [HF.out.lo, hkk])
              obtain ⟨t, ht⟩ : ∃ t, t = sr2.on[kk]'(by rw [HF.out.lo]; exact hkk) := ⟨_, rfl⟩
              rw [← ht] at i3 HON
              clear ht hq0
              cases t
              · have HGD2 := Lib.hid (HGD.out.skip HGE.out fun t ht htn => by
                  obtain rfl : t = kk := by omega
                  exact ⟨by rw [HIX.out]; exact HQ0.out, HON.out⟩)
                go_wp2_with fail
                go_roundg (row.length - (e2 + 1))
                case measure => have := HM2.out; omega
                case rel => exact ⟨vr2, sr2, e2 + 1, rfl, Lib.hid (by rw [HDEG.out]), HROW, HF, HGD2, HCN, HK, HNR, HSN⟩
              · have x2 := HF.out.box.cell (i := 2) rfl
                have t0 := own_at HROW.out (frs_last p0 v (e2 + 1)).1
                have i2 := HF.out.rl.cell (nn_at _ v (by rw [HF.out.ll]; exact hvn))
                have f2 := HF.out.rl.free v
                have HLO : Hid (sr2.low.getD v 0 = sr2.low[v]'(by rw [HF.out.ll]; exact hvn)) := Lib.hid (by simp [HF.out.ll, hvn])
                obtain ⟨p, hp⟩ : ∃ p, p = sr2.low[v]'(by rw [HF.out.ll]; exact hvn) := ⟨_, rfl⟩
                rw [← hp] at i2 HLO
                obtain ⟨mn, hmn⟩ : ∃ mn, mn = min p q := ⟨_, rfl⟩
                have emin : min (p : Int) (q : Int) = (mn : Int) := by omega
                have HGD2 := Lib.hid (HGD.out.low HGE.out hkk HON.out)
                rw [HLO.out, HIX.out, ← hmn] at HGD2
                have HF2 := Lib.hid (HF.out.setL v mn)
                clear hp hmn
                go_wp2_with fail
                go_region
                all_goals (
                  have HF3 := HF2.out.drewN 1
                  have hgtl : gt ≠ A.l := fun e => HF.out.rl.ne_own (by decide) HROW.out (by rw [← e]; rfl)
                  have HROW3 := (Kw.drewN _ 1 (fun _ => False)).row ((Kw.set w6 A.l v (.int .i64 (mn : Int))).row HROW.out fun b hb e => hgtl (by injection hb with hb; exact (show gt = b from hb).trans e)) fun _ _ h => h
                  have K3 := (HK.out.trans ((Kw.set w6 A.l v (.int .i64 (mn : Int))).mono fun j (e : j = A.l) => (.inr (.inr (.inl e)) : pF A vs j)) fun _ _ h => h).trans (Kw.drewN _ 1 (pF A vs)) fun _ _ h => h
                  go_wp2_with fail
                  go_roundg (row.length - (e2 + 1))
                  case measure => have := HM2.out; omega
                  case rel => exact ⟨vr2, { sr2 with low := sr2.low.set v mn }, e2 + 1, rfl, Lib.hid (by rw [HDEG.out]), Lib.hid HROW3, Lib.hid HF3, HGD2, HCN, Lib.hid K3, HNR, HSN⟩
                  )
          · have hb : (decide (0 ≤ z) && decide (z < (g.length : Int))) = false := by simp; omega
            rw [hb] at hhas
            have HHAS := Lib.hid hhas
            have HGD2 := Lib.hid (HGD.out.skip HGE.out fun t ht htn => absurd (⟨by omega, by omega⟩ : 0 ≤ z ∧ z < (g.length : Int)) hz)
            clear hhas hb hz
            (with_reducible refine HHAS.out.mono ?_); rintro e w6 ⟨rfl, rfl⟩
            go_wp2_with fail
            go_roundg (row.length - (e2 + 1))
            case measure => have := HM2.out; omega
            case rel => exact ⟨vr2, sr2, e2 + 1, rfl, Lib.hid (by rw [HDEG.out]), HROW, HF, HGD2, HCN, HK, HNR, HSN⟩
        · have hei : decide ((e2 : Int) < (row.length : Int)) = false := by simp; omega
          have hei2 : (row.length : Int) ≤ (e2 : Int) := by omega
          have HALL : Hid ((g.getD v []).length ≤ e2) := Lib.hid (by rw [HDEG.out]; omega)
          have t0m : ∀ m, (wr.drewN m).cell? ⟨gt, p0.length * 2, none⟩ = some (.int .i64 v) := fun _ => t0
          have t1m : ∀ m, (wr.drewN m).cell? ⟨gt, p0.length * 2 + 1, none⟩ = some (.int .i64 e2) := fun _ => t1
          have hsv : v ∈ sr2.stack := HGD.out.iv.grey (v, e2) (by simp)
          obtain ⟨sa, sb, hsab⟩ := List.append_of_mem hsv
          have hsb : v ∉ sb := fun hm => by
            have := HGD.out.iv.sorted
            rw [hsab] at this
            have h2 := (List.pairwise_cons.1 (List.pairwise_append.1 this).2.1).1 v hm
            exact Nat.lt_irrefl _ h2
          have hp0i : (p0.length : Int) ≤ (cap : Int) := by omega
          have hzr : ∀ m, ((wr.drewN m).alloc (.cells #[.int .i64 0, .int .i64 0] 83)).heap[wr.heap.size]? = some (.cells #[.int .i64 0, .int .i64 0] 83 (0, 0)) := fun m => heap_alloc_new (wr.drewN m) _
          have q0 := fun m => row_cell (hzr m) 0
          have q0f := fun m => row_free (hzr m) 0
          have q1 := fun m => row_cell (row_set (hzr m) 0 (.int .i64 v)) 1
          have q1f := fun m => row_free (row_set (hzr m) 0 (.int .i64 v)) 1
          simp at q0 q1
          go_wp2_with fail
          go_quiet (fail)
          revert nq; intro m1
          go_wp2_with fail
          have hga := fun m => row_set (row_set (hzr m) 0 (.int .i64 v)) 1 (.int .i64 e2)
          have hka : Kw wr ((((wr.drewN m1).alloc (.cells #[.int .i64 0, .int .i64 0] 83)).setCell ⟨wr.heap.size, 0, none⟩ (.int .i64 v)).setCell ⟨wr.heap.size, 1, none⟩ (.int .i64 e2)) (fun _ => False) :=
            (((Kw.drewN wr m1 (fun _ => False)).trans (Kw.alloc (wr.drewN m1) (.cells #[.int .i64 0, .int .i64 0] 83) (fun _ => False)) fun _ _ h => h).trans (Kw.set _ wr.heap.size 0 (.int .i64 v)) fun j hj e => absurd hj (by omega)).trans (Kw.set _ wr.heap.size 1 (.int .i64 e2)) fun j hj e => absurd hj (by omega)
          obtain ⟨WA, hWA⟩ : ∃ W, W = (((wr.drewN m1).alloc (.cells #[.int .i64 0, .int .i64 0] 83)).setCell ⟨wr.heap.size, 0, none⟩ (.int .i64 v)).setCell ⟨wr.heap.size, 1, none⟩ (.int .i64 e2) := ⟨_, rfl⟩
          have hga : WA.heap[wr.heap.size]? = some (.cells #[.int .i64 v, .int .i64 e2] 83 (0, 0)) := by rw [hWA]; exact hga m1
          rw [← hWA] at hka ⊢
          have HFA := Lib.hid (HF.out.kw hka id id id id id fun _ _ => id)
          have HRA := Lib.hid (hka.row HROW.out fun _ _ => id)
          have HKA := Lib.hid (HK.out.trans hka fun _ _ h => h.elim)
          clear hWA hka z0 t0 t1 ft c1 t0m t1m r1 HF HK HROW q0 q1 q0f q1f hzr
          have hrp := own_prefix HRA.out (i := p0.length) (by omega)
          rw [show (frs (p0 ++ [(v, e2)])).take (p0.length * 2) = frs p0 by rw [frs_append, ← frs_len p0, List.take_left]] at hrp
          have HRP := Lib.hid hrp
          clear hrp
          have hgaz := row_lt hga
          by_cases hlow : sr2.low.getD v 0 = sr2.idx.getD v 0
          · have HLV := Lib.hid (leave_pop B A g.length (.slice (some ⟨b1, o1, none⟩) g.length cg) vr2 sr2 v sa sb WA HFA.out hvn hlow hsab hsb HGD.out.lt (by have := HGD.out.mn; have := HGD.out.cntLe; omega) (by have := HGD.out.mn; have := HGD.out.cntLe; omega))
            (with_reducible refine HLV.out.mono ?_); rintro e w7 ⟨rfl, vr7, s7, f7, pp7, k7, n7⟩
            have GD7 := HGD.out.pop hsab HALL.out hlow pp7 f7.lo f7.lg
            have HR7 := Lib.hid (own_frames HFA.out HRP.out k7)
            have g7 : w7.heap[wr.heap.size]? = some (.cells #[.int .i64 v, .int .i64 e2] 83 (0, 0)) := (k7.block _ hgaz (HFA.out.notFrame hga)).trans hga
            have HS7 : Hid (∀ x, s7.idx.getD x 0 = sr2.idx.getD x 0) := Lib.hid fun x => by rw [pp7.idx]
            have HCN7 : Hid (s7.cnt = sr2.cnt) := Lib.hid pp7.cnt
            have HK7 := Lib.hid (HKA.out.trans k7 (pF_near HNR.out))
            have HN7 : Hid (Near w vs vr7) := Lib.hid (by
              rcases HNR.out with h | ⟨q, h, hle⟩
              · exact .inl (n7.trans h)
              · exact .inr ⟨q, n7.trans h, hle⟩)
            have HL7 : Hid (s7.low.getD v 0 = s7.idx.getD v 0) := Lib.hid (by rw [pp7.low, pp7.idx]; exact hlow)
            have HLU : Hid (∀ p1 u eu, p0 = p1 ++ [(u, eu)] → s7.low.getD u 0 ≤ s7.low.getD v 0) := Lib.hid fun p1 u eu hp => by
              have := HGD.out.iv
              rw [hp] at this
              rw [pp7.low]
              exact this.lowUnder hlow
            have hgd7 := GD7.iv
            obtain ⟨t7, ht7⟩ : ∃ t7, t7 = { s7 with stack := sa, many := sr2.many + 1 } := ⟨_, rfl⟩
            rw [← ht7] at f7 GD7
            have hti : t7.idx = s7.idx := by rw [ht7]
            have htl : t7.low = s7.low := by rw [ht7]
            have htc : t7.cnt = s7.cnt := by rw [ht7]
            have HT := Lib.hid (⟨hti, htl, htc⟩ : t7.idx = s7.idx ∧ t7.low = s7.low ∧ t7.cnt = s7.cnt)
            have HF7 := Lib.hid (f7.alloc (.cells #[.int .i64 0, .int .i64 0] 83))
            have HG7 := Lib.hid GD7
            have HKZ := Lib.hid (HK7.out.trans (Kw.alloc w7 (.cells #[.int .i64 0, .int .i64 0] 83) (pF A vs)) fun _ _ h => h)
            have HRZ := Lib.hid ((Kw.alloc w7 (.cells #[.int .i64 0, .int .i64 0] 83) (fun _ => False)).row HR7.out fun _ _ => id)
            have hz7 : (w7.alloc (.cells #[.int .i64 0, .int .i64 0] 83)).heap[wr.heap.size]? = some (.cells #[.int .i64 v, .int .i64 e2] 83 (0, 0)) := (Below.heap_alloc w7 _ _ (row_lt g7)).trans g7
            have d0 := row_cell hz7 0
            have d1 := row_cell hz7 1
            simp at d0 d1
            clear hti htl htc ht7 hgd7 f7 GD7 pp7 k7 n7 hz7 g7 hlow hsab hsb hsv HLV HK7 HR7 HGD HFA HRA HKA HRP
            rcases List.eq_nil_or_concat p0 with rfl | ⟨p1, ⟨u, eu⟩, hp1⟩
            · go_wp2_with fail
              go_roundg (2 * (g.length - sr2.cnt) + 0)
              case measure =>
                have h1 := HM.out
                have h2 := HCN.out
                simp only [List.length_append, List.length_cons, List.length_nil] at h1
                omega
              case rel => exact ⟨vr7, t7, [], Lib.hid (by rw [HT.out.2.2, HCN7.out]; rfl), HRZ.out, HF7, HG7, HKZ, HN7, Lib.hid (by
                have e : ∀ x, t7.idx.getD x 0 = sr2.idx.getD x 0 := fun x => by rw [HT.out.1, HS7.out]
                exact ⟨fun x hx => by rw [e]; exact HSN.out.1 x hx, by rw [e]; exact HSN.out.2⟩)⟩
            · rw [List.concat_eq_append] at hp1
              subst hp1
              have hll1 : (p1 ++ [(u, eu)]).length = p1.length + 1 := by simp
              rw [hll1] at HRZ ⊢
              have hun : u < g.length := HG7.out.lt u (HG7.out.iv.grey (u, eu) (by simp))
              have c4 := own_at HRZ.out (frs_last p1 u eu).1
              have x2 := HF7.out.box.cell (i := 2) rfl
              have i2 := HF7.out.rl.cell (nn_at _ u (by rw [HF7.out.ll]; exact hun))
              have i3 := HF7.out.rl.cell (nn_at _ v (by rw [HF7.out.ll]; exact hvn))
              have f2 := HF7.out.rl.free u
              have hui : (u : Int) < (g.length : Int) := by omega
              have HSZ : Hid ((∀ x, s.idx.getD x 0 ≠ 0 → t7.idx.getD x 0 ≠ 0) ∧ t7.idx.getD k 0 ≠ 0) := Lib.hid (by
                have e : ∀ x, t7.idx.getD x 0 = sr2.idx.getD x 0 := fun x => by rw [HT.out.1, HS7.out]
                exact ⟨fun x hx => by rw [e]; exact HSN.out.1 x hx, by rw [e]; exact HSN.out.2⟩)
              have HCZ : Hid (t7.cnt = sr2.cnt) := Lib.hid (by rw [HT.out.2.2, HCN7.out])
              have HMZ : Hid (2 * (g.length - sr2.cnt) + (p1.length + 1) < 2 * (g.length - sr.cnt) + (p1 ++ [(u, eu)] ++ [(v, e)]).length) := Lib.hid (by
                have h2 := HCN.out
                simp only [List.length_append, List.length_cons, List.length_nil]
                omega)
              have hlu : t7.low.getD u 0 ≤ t7.low.getD v 0 := by rw [HT.out.2.1]; exact HLU.out p1 u eu rfl
              have eu9 : t7.low.getD u 0 = t7.low[u]'(by rw [HF7.out.ll]; exact hun) := by simp [HF7.out.ll, hun]
              have ev9 : t7.low.getD v 0 = t7.low[v]'(by rw [HF7.out.ll]; exact hvn) := by simp [HF7.out.ll, hvn]
              rw [eu9, ev9] at hlu
              have hself : t7.low.set u (t7.low[u]'(by rw [HF7.out.ll]; exact hun)) = t7.low := List.set_getElem_self _
              obtain ⟨lu, hlu1⟩ : ∃ lu, lu = t7.low[u]'(by rw [HF7.out.ll]; exact hun) := ⟨_, rfl⟩
              obtain ⟨lv, hlv1⟩ : ∃ lv, lv = t7.low[v]'(by rw [HF7.out.ll]; exact hvn) := ⟨_, rfl⟩
              rw [← hlu1] at hlu i2 hself
              rw [← hlv1] at hlu i3
              have emin : min (lu : Int) (lv : Int) = (lu : Int) := by omega
              have HF8 := HF7.out.setL u lu
              rw [hself] at HF8
              have HF8 := Lib.hid HF8
              clear hlu1 hlv1 hself eu9 ev9 hlu HLU
              by_cases hv0 : v = 0 ∧ e2 = 0
              · obtain ⟨rfl, rfl⟩ := hv0
                go_wp2_with fail
                go_roundg (2 * (g.length - sr2.cnt) + (p1.length + 1))
                case measure => rw [← HM.out]; exact HMZ.out
                case rel => exact ⟨vr7, t7, p1 ++ [(u, eu)], Lib.hid (by rw [HCZ.out]; simp), (by rw [hll1]; exact HRZ.out), HF7, HG7, HKZ, HN7, HSZ⟩
              · have hvc : ((v : Int) == 0) = false ∨ (v = 0 ∧ ((e2 : Int) == 0) = false) := by
                  by_cases h : v = 0
                  · right; refine ⟨h, ?_⟩; simp; omega
                  · left; simp; omega
                clear hv0
                rcases hvc with hv0 | ⟨rfl, hv0⟩
                all_goals (
                  go_wp2_with fail
                  go_region
                  all_goals (
                    have HF9 := HF8.out.drewN 1
                    have hgtl : gt ≠ A.l := fun e => HF7.out.rl.ne_own (by decide) HRZ.out (by rw [← e]; rfl)
                    have HR9 := (Kw.drewN _ 1 (fun _ => False)).row ((Kw.set _ A.l u (.int .i64 (lu : Int))).row HRZ.out fun b hb e => hgtl (by injection hb with hb; exact (show gt = b from hb).trans e)) fun _ _ h => h
                    have K9 := (HKZ.out.trans ((Kw.set _ A.l u (.int .i64 (lu : Int))).mono fun j (e : j = A.l) => (.inr (.inr (.inl e)) : pF A vs j)) fun _ _ h => h).trans (Kw.drewN _ 1 (pF A vs)) fun _ _ h => h
                    go_wp2_with fail
                    go_roundg (2 * (g.length - sr2.cnt) + (p1.length + 1))
                    case measure => rw [← HM.out]; exact HMZ.out
                    case rel => exact ⟨vr7, t7, p1 ++ [(u, eu)], Lib.hid (by rw [HCZ.out]; simp), (by rw [hll1]; exact HR9), Lib.hid HF9, HG7, Lib.hid K9, HN7, HSZ⟩
                    )
                  )
          · obtain ⟨hp0n, hrl⟩ := HGD.out.iv.under hlow
            have he2 : 0 < e2 := by have := HALL.out; omega
            rcases List.eq_nil_or_concat p0 with h0 | ⟨p1, ⟨u, eu⟩, hp1⟩
            · exact absurd h0 hp0n
            rw [List.concat_eq_append] at hp1
            subst hp1
            have hll1 : (p1 ++ [(u, eu)]).length = p1.length + 1 := by simp
            have HGST := Lib.hid (HGD.out.stay HALL.out hlow)
            have HLV := Lib.hid (leave_no B A g.length (.slice (some ⟨b1, o1, none⟩) g.length cg) vr2 sr2 v WA HFA.out hvn hlow)
            (with_reducible refine HLV.out.mono ?_); rintro e w7 ⟨rfl, m7, hw7⟩
            have HF7 : Hid (Fd (w7.alloc (.cells #[.int .i64 0, .int .i64 0] 83)) B A g.length (.slice (some ⟨b1, o1, none⟩) g.length cg) vr2 sr2) := Lib.hid (by rw [hw7]; exact (HFA.out.drewN m7).alloc _)
            have hz7 : (w7.alloc (.cells #[.int .i64 0, .int .i64 0] 83)).heap[wr.heap.size]? = some (.cells #[.int .i64 v, .int .i64 e2] 83 (0, 0)) := by rw [hw7]; exact (Below.heap_alloc (WA.drewN m7) _ _ hgaz).trans hga
            have HRZ : Hid ((w7.alloc (.cells #[.int .i64 0, .int .i64 0] 83)).ownsRow w1.heap.size 83 2 (.slice (some ⟨gt, 0, none⟩) (p1.length + 1) cap) (p1.length + 1) (frs (p1 ++ [(u, eu)]))) := Lib.hid (by
              have := HRP.out
              rw [hll1] at this
              rw [hw7]; exact (Kw.alloc (WA.drewN m7) _ (fun _ => False)).row (own_drewN this m7) fun _ _ => id)
            have HKZ : Hid (Kw w (w7.alloc (.cells #[.int .i64 0, .int .i64 0] 83)) (pF A vs)) := Lib.hid (by rw [hw7]; exact (HKA.out.trans (Kw.drewN WA m7 (pF A vs)) fun _ _ h => h).trans (Kw.alloc _ _ (pF A vs)) fun _ _ h => h)
            have d0 := row_cell hz7 0
            have d1 := row_cell hz7 1
            simp at d0 d1
            have hun : u < g.length := HGD.out.lt u (HGD.out.iv.grey (u, eu) (by simp))
            have c4 := own_at HRZ.out (frs_last p1 u eu).1
            have x2 := HF7.out.box.cell (i := 2) rfl
            have i2 := HF7.out.rl.cell (nn_at _ u (by rw [HF7.out.ll]; exact hun))
            have i3 := HF7.out.rl.cell (nn_at _ v (by rw [HF7.out.ll]; exact hvn))
            have f2 := HF7.out.rl.free u
            have hui : (u : Int) < (g.length : Int) := by omega
            have HMZ : Hid (2 * (g.length - sr2.cnt) + (p1.length + 1) < 2 * (g.length - sr.cnt) + (p1 ++ [(u, eu)] ++ [(v, e)]).length) := Lib.hid (by
              have h2 := HCN.out
              simp only [List.length_append, List.length_cons, List.length_nil]
              omega)
            have eu9 : sr2.low.getD u 0 = sr2.low[u]'(by rw [HF7.out.ll]; exact hun) := by simp [HF7.out.ll, hun]
            have ev9 : sr2.low.getD v 0 = sr2.low[v]'(by rw [HF7.out.ll]; exact hvn) := by simp [HF7.out.ll, hvn]
            rw [eu9, ev9] at HGST
            obtain ⟨lu, hlu1⟩ : ∃ lu, lu = sr2.low[u]'(by rw [HF7.out.ll]; exact hun) := ⟨_, rfl⟩
            obtain ⟨lv, hlv1⟩ : ∃ lv, lv = sr2.low[v]'(by rw [HF7.out.ll]; exact hvn) := ⟨_, rfl⟩
            rw [← hlu1, ← hlv1] at HGST
            rw [← hlu1] at i2
            rw [← hlv1] at i3
            obtain ⟨mn, hmn⟩ : ∃ mn, mn = min lu lv := ⟨_, rfl⟩
            rw [← hmn] at HGST
            have emin : min (lu : Int) (lv : Int) = (mn : Int) := by omega
            have HF8 := Lib.hid (HF7.out.setL u mn)
            have hvc : ((v : Int) == 0) = false ∨ (v = 0 ∧ ((e2 : Int) == 0) = false) := by
              by_cases h : v = 0
              · right; refine ⟨h, ?_⟩; simp; omega
              · left; simp; omega
            rw [hll1]
            clear hlu1 hlv1 eu9 ev9 hmn hw7 hz7 hlow hsab hsb hsv HLV HGD HFA HRA HKA HRP hga hgaz hp0n hrl he2
            rcases hvc with hv0 | ⟨rfl, hv0⟩
            all_goals (
              go_wp2_with fail
              go_region
              all_goals (
                have HF9 := HF8.out.drewN 1
                have hgtl : gt ≠ A.l := fun e => HF7.out.rl.ne_own (by decide) HRZ.out (by rw [← e]; rfl)
                have HR9 := (Kw.drewN _ 1 (fun _ => False)).row ((Kw.set _ A.l u (.int .i64 (mn : Int))).row HRZ.out fun b hb e => hgtl (by injection hb with hb; exact (show gt = b from hb).trans e)) fun _ _ h => h
                have K9 := (HKZ.out.trans ((Kw.set _ A.l u (.int .i64 (mn : Int))).mono fun j (e : j = A.l) => (.inr (.inr (.inl e)) : pF A vs j)) fun _ _ h => h).trans (Kw.drewN _ 1 (pF A vs)) fun _ _ h => h
                go_wp2_with fail
                go_roundg (2 * (g.length - sr2.cnt) + (p1.length + 1))
                case measure => rw [← HM.out]; exact HMZ.out
                case rel => exact ⟨vr2, { sr2 with low := sr2.low.set u mn }, p1 ++ [(u, eu)], Lib.hid (by simp), (by rw [hll1]; exact HR9), Lib.hid HF9, HGST, Lib.hid K9, HNR, HSN⟩
                )
              )
end Go.Proofs.Ytemdhbeegheefaa
