
/- 'MacroEmpty', walked: it answers true at every input. No condition. -/
import Derived.Test.YtkpdhpbnbpjceaaMacLawB
import Derived.Test.YtkpdhpbnbpjceaaMacLawC
import Derived.Deep.RegionHeld3
namespace Go.Proofs.Ytkpdhpbnbpjceaa
open Go.RowKit

theorem tcs_setS (l : List Lx.Tok) (i : Nat) (h : i < l.length) (s : List UInt8) : (tcs l).set (i * 2 + 1) (.string (S s)) = tcs (l.set i (l[i].1, s)) := by
  induction l generalizing i with
  | nil => simp at h
  | cons t l ih =>
    have e : ∀ (t : Lx.Tok) l, tcs (t :: l) = .int .i64 t.1 :: .string (S t.2) :: tcs l := fun t l => by simp [tcs, tc]
    cases i with
    | zero => simp [tcs, tc]
    | succ i =>
      have hi : i < l.length := by simpa using h
      rw [e, show (i + 1) * 2 + 1 = i * 2 + 1 + 1 + 1 by omega]
      simp only [List.set_cons_succ, List.getElem_cons_succ, e, ih i hi]

/-- The tokens that are no parameters. -/
def noPar (l : List Lx.Tok) : List Lx.Tok := l.filter fun t => t.1 != 7
theorem fill_nil (l : List Lx.Tok) : Mx.fill [] l = noPar l := by
  induction l with
  | nil => rfl
  | cons t r ih =>
    have e : Mx.fill [] (t :: r) = Mx.fillOne [] t ++ Mx.fill [] r := by simp [Mx.fill]
    have en : noPar (t :: r) = if (t.1 != 7) = true then t :: noPar r else noPar r := List.filter_cons
    rw [e, ih, en]
    unfold Mx.fillOne
    by_cases h : t.1 = 7
    · rw [if_pos h, if_neg (by simp [h])]
      have : Mx.argAt [] (Mx.placeI t.2) ([] : List (List Lx.Tok)).length = [] := by unfold Mx.argAt; split <;> simp
      rw [this]; rfl
    · rw [if_neg h, if_pos (by simpa [bne] using h)]; rfl
theorem fill_noPar (a : List (List Lx.Tok)) (l : List Lx.Tok) : Mx.fill a (noPar l) = noPar l := by
  induction l with
  | nil => rfl
  | cons t r ih =>
    rw [noPar, List.filter_cons]
    by_cases h : t.1 = 7
    · rw [if_neg (by simp [h])]; exact ih
    · rw [if_pos (by simpa [bne] using h)]
      have e : Mx.fill a (t :: noPar r) = Mx.fillOne a t ++ Mx.fill a (noPar r) := by simp [Mx.fill]
      have e2 : (r.filter fun t => t.1 != 7) = noPar r := rfl
      rw [e2, e, ih, Mx.fillOne, if_neg h]; rfl
theorem fill_append (a : List (List Lx.Tok)) (l k : List Lx.Tok) : Mx.fill a (l ++ k) = Mx.fill a l ++ Mx.fill a k := by simp [Mx.fill]
theorem noPar_take {l : List Lx.Tok} {j : Nat} (h : j < l.length) : noPar (l.take (j + 1)) = noPar (l.take j) ++ (if l[j].1 = 7 then [] else [l[j]]) := by
  rw [take_snoc l j h, noPar, List.filter_append]
  congr 1
  by_cases h7 : l[j].1 = 7
  · rw [if_pos h7]; simp [h7]
  · rw [if_neg h7]; simp [h7]
theorem noPar_le (l : List Lx.Tok) : (noPar l).length ≤ l.length := List.length_filter_le _ _

/-- A list of lists that is read, above B, and a row x elsewhere. -/
def Rsx (w : World) (B : Nat) (v : Value) (ls : List (List Lx.Tok)) (x : Value) : Prop :=
  ∃ vs : List Value, Rd w 1 v ls.length vs ∧ (∀ b, v.ownBlock = some b → b < w.heap.size ∧ x.ownBlock ≠ some b ∧ B ≤ b) ∧ ∀ (i : Nat) (u : Value) (l : List Lx.Tok), vs[i]? = some u → ls[i]? = some l → Rt w u l ∧ ∀ b, u.ownBlock = some b → b < w.heap.size ∧ x.ownBlock ≠ some b ∧ B ≤ b
theorem Rsx.rts {w : World} {B : Nat} {v x : Value} {ls : List (List Lx.Tok)} (h : Rsx w B v ls x) : Rts w v ls := by
  obtain ⟨vs, h1, _, h2⟩ := h
  exact ⟨vs, h1, fun i u l hu hl => (h2 i u l hu hl).1⟩
theorem near_apart {w : World} {x x' : Value} {b : Nat} (hn : Near w x x') (hb : b < w.heap.size) (hx : x.ownBlock ≠ some b) : x'.ownBlock ≠ some b := by
  rcases hn with h2 | ⟨g, h2, hle⟩
  · rw [h2]; exact hx
  · rw [h2]; intro e; injection e with e; omega
/-- x has grown. -/
theorem Rsx.grown {w w' : World} {B : Nat} {v x x' : Value} {ls : List (List Lx.Tok)} (h : Rsx w B v ls x) (hg : w.grownBy w' x.ownBlock) (hn : Near w x x') : Rsx w' B v ls x' := by
  obtain ⟨vs, h1, h2, h3⟩ := h
  refine ⟨vs, Rd.grown h1 hg fun b hb e => (h2 b hb).2.1 e.symm, fun b hb => ⟨Nat.lt_of_lt_of_le (h2 b hb).1 hg.size, near_apart hn (h2 b hb).1 (h2 b hb).2.1, (h2 b hb).2.2⟩, fun i u l hu hl => ⟨Rd.grown (h3 i u l hu hl).1 hg fun b hb e => ((h3 i u l hu hl).2 b hb).2.1 e.symm, fun b hb => ?_⟩⟩
  have h := (h3 i u l hu hl).2 b hb
  exact ⟨Nat.lt_of_lt_of_le h.1 hg.size, near_apart hn h.1 h.2.1, h.2.2⟩
/-- A block below turns. -/
theorem Rsx.apart {w w' : World} {B g : Nat} {v x : Value} {ls : List (List Lx.Tok)} (h : Rsx w B v ls x) (hg : w.grownBy w' (some g)) (hlt : g < B) : Rsx w' B v ls x := by
  obtain ⟨vs, h1, h2, h3⟩ := h
  refine ⟨vs, Rd.grown h1 hg fun b hb e => ?_, fun b hb => ⟨Nat.lt_of_lt_of_le (h2 b hb).1 hg.size, (h2 b hb).2⟩, fun i u l hu hl => ⟨Rd.grown (h3 i u l hu hl).1 hg fun b hb e => ?_, fun b hb => ?_⟩⟩
  · cases e; have := (h2 _ hb).2.2; omega
  · cases e; have := ((h3 i u l hu hl).2 _ hb).2.2; omega
  · have h := (h3 i u l hu hl).2 b hb
    exact ⟨Nat.lt_of_lt_of_le h.1 hg.size, h.2⟩
theorem Rsx.below' {w w' : World} {B : Nat} {v x : Value} {ls : List (List Lx.Tok)} (h : Rsx w B v ls x) (hb : Below w.heap.size w w') : Rsx w' B v ls x := by
  obtain ⟨vs, h1, h2, h3⟩ := h
  exact ⟨vs, h1.below' hb, fun b hb' => ⟨Nat.lt_of_lt_of_le (h2 b hb').1 hb.size, (h2 b hb').2⟩, fun i u l hu hl => ⟨(h3 i u l hu hl).1.below' hb, fun b hb' => ⟨Nat.lt_of_lt_of_le ((h3 i u l hu hl).2 b hb').1 hb.size, ((h3 i u l hu hl).2 b hb').2⟩⟩⟩
theorem take_set_snoc {α : Type} (l : List α) (j : Nat) (h : j < l.length) (x : α) : (l.set j x).take (j + 1) = l.take j ++ [x] := by
  rw [take_snoc (l.set j x) j (by rw [List.length_set]; exact h), List.getElem_set_self, List.take_set_of_le (Nat.le_refl _)]
theorem rsx_two {W : World} {B X : Nat} {vp vq x : Value} {p q : List Lx.Tok} {T : TypeId} {f : Nat × Nat} (hX : W.heap[X]? = some (.cells #[vp, vq] T f)) (hXB : B ≤ X) (hXx : x.ownBlock ≠ some X) (hp : Rt W vp p) (hq : Rt W vq q)
    (sp : ∀ b, vp.ownBlock = some b → b < W.heap.size ∧ x.ownBlock ≠ some b ∧ B ≤ b) (sq : ∀ b, vq.ownBlock = some b → b < W.heap.size ∧ x.ownBlock ≠ some b ∧ B ≤ b) : Rsx W B (.slice (some ⟨X, 0, none⟩) 2 2) [p, q] x := by
  have hlt := row_lt hX
  refine ⟨[vp, vq], ⟨rfl, .inr ⟨X, 0, 2, rfl, fun _ => hlt, fun j u hj => ?_, Nat.le_refl _⟩⟩, fun b hb => ?_, fun i u l hu hl => ?_⟩
  · rw [row_cell hX]
    match j with
    | 0 => simpa using hj
    | 1 => simpa using hj
    | j + 2 => simp at hj
  · have e : X = b := by simpa [Value.ownBlock] using hb
    subst e
    exact ⟨hlt, hXx, hXB⟩
  · match i with
    | 0 => simp at hu hl; subst hu; subst hl; exact ⟨hp, sp⟩
    | 1 => simp at hu hl; subst hu; subst hl; exact ⟨hq, sq⟩
    | i + 2 => simp at hu
theorem own_empty {W : World} {B Y k : Nat} {T : TypeId} (hY : W.heap[Y]? = some (.cells #[] T (0, 0))) (hB : B ≤ Y) : W.ownsRow B T k (.slice (some ⟨Y, 0, none⟩) 0 0) 0 [] :=
  ⟨by simp, .inr ⟨Y, 0, #[], rfl, hB, hY, Nat.le_refl _, by decide, by simp, by simp⟩⟩

set_option maxRecDepth 20000 in
set_option maxHeartbeats 4000000 in
/-- 'MacroEmpty'. -/
theorem macroEmpty_any (v u a b : Value) (l k p q : List Lx.Tok) (w : World) (hl : Rt w v l) (hk : Rt w u k) (hp : Rt w a p) (hq : Rt w b q) (hs : ∀ t ∈ l, t.2.length ≤ 9223372036854775807) (hs2 : ∀ t ∈ k, t.2.length ≤ 9223372036854775807)
    (hs3 : ∀ t ∈ p, t.2.length ≤ 9223372036854775807) (hs4 : ∀ t ∈ q, t.2.length ≤ 9223372036854775807) :
    Calls Try.prog 8 #[v, u, .agg #[a, b]] w fun e w' => e = .returned (.bool true) ∧ Below w.heap.size w w' := by
  have hC := fun w' (hb : Below w.heap.size w w') => cut_any v l 30 w' (hl.below' hb) (by decide) hs
  simp only [Int.cast_ofNat_Int] at hC
  have HC := Lib.hid hC
  have hK := fun w' (hb : Below w.heap.size w w') => cut_any u k 30 w' (hk.below' hb) (by decide) hs2
  simp only [Int.cast_ofNat_Int] at hK
  have HK := Lib.hid hK
  have hP := fun w' (hb : Below w.heap.size w w') => cut_any a p 20 w' (hp.below' hb) (by decide) hs3
  simp only [Int.cast_ofNat_Int] at hP
  have HP := Lib.hid hP
  have hQ := fun w' (hb : Below w.heap.size w w') => cut_any b q 20 w' (hq.below' hb) (by decide) hs4
  simp only [Int.cast_ofNat_Int] at hQ
  have HQ := Lib.hid hQ
  clear hC hl hs hK hk hs2 hP hp hs3 hQ hq hs4
  have hlen := cutm_len l 30
  have heach := cutm_each l 30
  have hlen2 := cutm_len k 30
  have heach2 := cutm_each k 30
  have hlen3 := cutm_len p 20
  have hlen4 := cutm_len q 20
  obtain ⟨lc, hlc⟩ : ∃ lc, lc = (l.take 30).map cut40 := ⟨_, rfl⟩
  obtain ⟨kc, hkc⟩ : ∃ kc, kc = (k.take 30).map cut40 := ⟨_, rfl⟩
  obtain ⟨pc, hpc⟩ : ∃ pc, pc = (p.take 20).map cut40 := ⟨_, rfl⟩
  obtain ⟨qc, hqc⟩ : ∃ qc, qc = (q.take 20).map cut40 := ⟨_, rfl⟩
  rw [← hlc] at HC hlen heach
  rw [← hkc] at HK hlen2 heach2
  rw [← hpc] at HP hlen3
  rw [← hqc] at HQ hlen4
  clear hlc hkc hpc hqc
  go_enter Try.func8, Try.ntmps8
  obtain ⟨w0, hw0⟩ : ∃ w0, w0 = w.alloc (.cells #[a, b] 76) := ⟨_, rfl⟩
  have b0 : Below w.heap.size w w0 := by rw [hw0]; exact (Below.refl _ _).alloc (Nat.le_refl _) _
  have g0 : w0.heap[w.heap.size]? = some (.cells #[a, b] 76 (0, 0)) := by rw [hw0]; exact heap_alloc_new w _
  have hs0 := b0.size
  go_wp2_with fail
  rw [← hw0]
  clear hw0
  (with_reducible refine (HC.out w0 b0).mono ?_); rintro e w1 ⟨va, rfl, oa, b1⟩
  have B1 := b0.trans (b1.mono hs0)
  have g1 := (b1.block _ (row_lt g0)).trans g0
  go_wp2_with fail
  (with_reducible refine (HK.out w1 B1).mono ?_); rintro e w2 ⟨vb, rfl, ob, b2⟩
  have B2 := B1.trans (b2.mono B1.size)
  have hua := own_under oa
  have hs12 := b2.size
  have g2 := (b2.block _ (row_lt g1)).trans g1
  have oa2 := own_below oa (own_under oa) b2
  have hl2 := row_lt g2
  have hub := own_under ob
  have hk : ∀ W, Below w2.heap.size w2 W → W.cell? ⟨w.heap.size, 0, none⟩ = some a ∧ W.cell? ⟨w.heap.size, 1, none⟩ = some b := fun W hb =>
    ⟨row_cell ((hb.block _ hl2).trans g2) 0, row_cell ((hb.block _ hl2).trans g2) 1⟩
  have HKP := Lib.hid hk
  have hdrew : ∀ x : World, x.drew.heap.size = x.heap.size := fun _ => rfl
  have bd : Below w2.heap.size w2 w2.drew := below_drewN (Below.refl _ _) 1
  have hB2 := B2.size
  have ba : Below w2.heap.size w2 (w2.alloc (.cells #[] 41)).drew := below_drewN ((Below.refl _ _).alloc (Nat.le_refl _) _) 1
  clear g0 g1 b0 b1 oa g2 hk
  go_wp2_with fail
  go_region_held3 (fun w' => w'.cell? ⟨w.heap.size, 0, none⟩ = some a ∧ w'.cell? ⟨w.heap.size, 1, none⟩ = some b)
    (first
      | exact HKP.out _ bd
      | exact HKP.out _ ba
      | exact HKP.out _ ((Below.refl _ _).alloc (Nat.le_refl _) _)
      | exact HKP.out _ b3'
      | exact HKP.out _ (b3'.alloc hs3 _)
      | exact HKP.out _ (below_drewN (b3'.alloc hs3 _) 1)
      | exact HKP.out _ b4'
      | exact HKP.out _ (b4'.alloc hs4 _)
      | exact HKP.out _ ((b4'.alloc hs4 _).alloc (by simp; omega) _)
      | exact HKP.out _ ((b4'.alloc hs4 _).alloc (Nat.le_succ_of_le hs4) _)
      | exact HKP.out _ (below_drewN (b4'.alloc hs4 _) 1)
      | exact HKP.out _ ((below_drewN (b4'.alloc hs4 _) 1).alloc (Nat.le_succ_of_le hs4) _)
      | fail)
    (first
      | (go_at_call 9; (first | (with_reducible refine (HP.out _ (B2.trans (bd.mono hB2))).mono ?_) | (with_reducible refine (HP.out _ (B2.trans (ba.mono hB2))).mono ?_) | fail); rintro e w3 ⟨vp, rfl, op, b3⟩; (first | have b3' := bd.trans (b3.mono bd.size) | have b3' := ba.trans (b3.mono ba.size) | fail); have hs3 := b3'.size; obtain ⟨a3, c3, rfl⟩ := own_shape op)
      | (go_at_call 9; (first | (with_reducible refine (HQ.out _ (B2.trans (b3'.mono hB2))).mono ?_) | (with_reducible refine (HQ.out _ (B2.trans ((b3'.alloc hs3 _).mono hB2))).mono ?_) | (with_reducible refine (HQ.out _ (B2.trans ((below_drewN (b3'.alloc hs3 _) 1).mono hB2))).mono ?_) | fail); rintro e w4 ⟨vq, rfl, oq, b4⟩; (first | have b4' := b3'.trans (b4.mono hs3) | have b4' := (b3'.alloc hs3 _).trans (b4.mono (b3'.alloc hs3 _).size) | fail); have hs4 := b4'.size; obtain ⟨a4, c4, rfl⟩ := own_shape oq)
      | fail)
  have hs34 := b4.size
  have hs23 := b3.size
  (try rw [hdrew] at hs23); (try rw [World.size_alloc] at hs23)
  (try rw [hdrew] at hs34); (try rw [World.size_alloc] at hs34)
  obtain ⟨W, hW⟩ : ∃ W, W = (w4.alloc (.cells #[.slice a3 pc.length c3, .slice a4 qc.length c4] 22)).alloc (.cells #[] 41) := ⟨_, rfl⟩
  rw [← hW]
  have hX : W.heap[w4.heap.size]? = some (.cells #[.slice a3 pc.length c3, .slice a4 qc.length c4] 22 (0, 0)) := hW ▸ (alloc2_first _ _ _)
  have hY : W.heap[w4.heap.size + 1]? = some (.cells #[] 41 (0, 0)) := hW ▸ (alloc2_second _ _ _)
  have bW : Below w2.heap.size w2 W := hW ▸ ((b4'.alloc hs4 _).alloc (by simp; omega) _)
  have hszW : W.heap.size = w4.heap.size + 2 := by rw [hW]; simp
  have rp : Rt W (.slice a3 pc.length c3) pc := hW ▸ (((own_rd op).below' b4).below' (((Below.refl _ _).alloc (Nat.le_refl _) _).alloc (by simp) _))
  have rq : Rt W (.slice a4 qc.length c4) qc := hW ▸ ((own_rd oq).below' (((Below.refl _ _).alloc (Nat.le_refl _) _).alloc (by simp) _))
  have hO := own_empty (B := w2.heap.size) (k := 2) hY (by omega)
  have hR := rsx_two (B := w2.heap.size) (x := .slice (some ⟨w4.heap.size + 1, 0, none⟩) 0 0) hX (by omega) (by simp [Value.ownBlock]) rp rq
    (fun b hb => by have h1 := (op.lt b hb).1; have h2 := (op.lt b hb).2; (try rw [hdrew] at h1); (try rw [World.size_alloc] at h1); refine ⟨by omega, fun e => ?_, by omega⟩; have e : w4.heap.size + 1 = b := (by simpa [Value.ownBlock] using e); omega)
    (fun b hb => by have h1 := (oq.lt b hb).1; have h2 := (oq.lt b hb).2; (try rw [hdrew] at h1); (try rw [World.size_alloc] at h1); refine ⟨by omega, fun e => ?_, by omega⟩; have e : w4.heap.size + 1 = b := (by simpa [Value.ownBlock] using e); omega)
  clear hW hX hY rp rq hszW op oq
  generalize hvR : Value.slice (some ⟨w4.heap.size, 0, none⟩) 2 2 = vR at hR ⊢
  generalize hvY : Value.slice (some ⟨w4.heap.size + 1, 0, none⟩) 0 0 = vY at hR hO ⊢
  clear hvR hvY
  rotate_left
  have hs34 := b4.size
  have hs23 := b3.size
  (try rw [hdrew] at hs23); (try rw [World.size_alloc] at hs23)
  (try rw [hdrew] at hs34); (try rw [World.size_alloc] at hs34)
  obtain ⟨W, hW⟩ : ∃ W, W = (w4.alloc (.cells #[] 41)).alloc (.cells #[.slice a3 pc.length c3, .slice a4 qc.length c4] 22) := ⟨_, rfl⟩
  rw [← hW]
  have hX : W.heap[w4.heap.size + 1]? = some (.cells #[.slice a3 pc.length c3, .slice a4 qc.length c4] 22 (0, 0)) := hW ▸ (alloc2_second _ _ _)
  have hY : W.heap[w4.heap.size]? = some (.cells #[] 41 (0, 0)) := hW ▸ (alloc2_first _ _ _)
  have bW : Below w2.heap.size w2 W := hW ▸ ((b4'.alloc hs4 _).alloc (by simp; omega) _)
  have hszW : W.heap.size = w4.heap.size + 2 := by rw [hW]; simp
  have rp : Rt W (.slice a3 pc.length c3) pc := hW ▸ (((own_rd op).below' b4).below' (((Below.refl _ _).alloc (Nat.le_refl _) _).alloc (by simp) _))
  have rq : Rt W (.slice a4 qc.length c4) qc := hW ▸ ((own_rd oq).below' (((Below.refl _ _).alloc (Nat.le_refl _) _).alloc (by simp) _))
  have hO := own_empty (B := w2.heap.size) (k := 2) hY (by omega)
  have hR := rsx_two (B := w2.heap.size) (x := .slice (some ⟨w4.heap.size, 0, none⟩) 0 0) hX (by omega) (by simp [Value.ownBlock]) rp rq
    (fun b hb => by have h1 := (op.lt b hb).1; have h2 := (op.lt b hb).2; (try rw [hdrew] at h1); (try rw [World.size_alloc] at h1); refine ⟨by omega, fun e => ?_, by omega⟩; have e : w4.heap.size = b := (by simpa [Value.ownBlock] using e); omega)
    (fun b hb => by have h1 := (oq.lt b hb).1; have h2 := (oq.lt b hb).2; (try rw [hdrew] at h1); (try rw [World.size_alloc] at h1); refine ⟨by omega, fun e => ?_, by omega⟩; have e : w4.heap.size = b := (by simpa [Value.ownBlock] using e); omega)
  clear hW hX hY rp rq hszW op oq
  generalize hvR : Value.slice (some ⟨w4.heap.size + 1, 0, none⟩) 2 2 = vR at hR ⊢
  generalize hvY : Value.slice (some ⟨w4.heap.size, 0, none⟩) 0 0 = vY at hR hO ⊢
  clear hvR hvY
  rotate_left
  have hs34 := b4.size
  have hs23 := b3.size
  (try rw [hdrew] at hs23); (try rw [World.size_alloc] at hs23)
  (try rw [hdrew] at hs34); (try rw [World.size_alloc] at hs34)
  obtain ⟨W, hW⟩ : ∃ W, W = w4.alloc (.cells #[.slice a3 pc.length c3, .slice a4 qc.length c4] 22) := ⟨_, rfl⟩
  rw [← hW]
  have q : Below (w3.alloc (.cells #[] 41)).heap.size (w3.alloc (.cells #[] 41)) w4 := b4
  have hX : W.heap[w4.heap.size]? = some (.cells #[.slice a3 pc.length c3, .slice a4 qc.length c4] 22 (0, 0)) := hW ▸ (heap_alloc_new _ _)
  have hY : W.heap[w3.heap.size]? = some (.cells #[] 41 (0, 0)) := hW ▸ (((Below.heap_alloc _ _ _ (by omega)).trans (b4.block _ (by simp))).trans (heap_alloc_new _ _))
  have bW : Below w2.heap.size w2 W := hW ▸ (b4'.alloc hs4 _)
  have hszW : W.heap.size = w4.heap.size + 1 := by rw [hW]; simp
  have rp : Rt W (.slice a3 pc.length c3) pc := hW ▸ ((((own_rd op).below' ((Below.refl _ _).alloc (Nat.le_refl _) _)).below' b4).below' ((Below.refl _ _).alloc (Nat.le_refl _) _))
  have rq : Rt W (.slice a4 qc.length c4) qc := hW ▸ ((own_rd oq).below' ((Below.refl _ _).alloc (Nat.le_refl _) _))
  have hO := own_empty (B := w2.heap.size) (k := 2) hY (by omega)
  have hR := rsx_two (B := w2.heap.size) (x := .slice (some ⟨w3.heap.size, 0, none⟩) 0 0) hX (by omega) (by simp [Value.ownBlock]; omega) rp rq
    (fun b hb => by have h1 := (op.lt b hb).1; have h2 := (op.lt b hb).2; (try rw [hdrew] at h1); (try rw [World.size_alloc] at h1); refine ⟨by omega, fun e => ?_, by omega⟩; have e : w3.heap.size = b := (by simpa [Value.ownBlock] using e); omega)
    (fun b hb => by have h1 := (oq.lt b hb).1; have h2 := (oq.lt b hb).2; (try rw [hdrew] at h1); (try rw [World.size_alloc] at h1); refine ⟨by omega, fun e => ?_, by omega⟩; have e : w3.heap.size = b := (by simpa [Value.ownBlock] using e); omega)
  clear hW hX hY rp rq hszW op oq
  generalize hvR : Value.slice (some ⟨w4.heap.size, 0, none⟩) 2 2 = vR at hR ⊢
  generalize hvY : Value.slice (some ⟨w3.heap.size, 0, none⟩) 0 0 = vY at hR hO ⊢
  clear hvR hvY
  rotate_left
  have hs34 := b4.size
  have hs23 := b3.size
  (try rw [hdrew] at hs23); (try rw [World.size_alloc] at hs23)
  (try rw [hdrew] at hs34); (try rw [World.size_alloc] at hs34)
  obtain ⟨W, hW⟩ : ∃ W, W = w4.alloc (.cells #[.slice a3 pc.length c3, .slice a4 qc.length c4] 22) := ⟨_, rfl⟩
  rw [← hW]
  have hX : W.heap[w4.heap.size]? = some (.cells #[.slice a3 pc.length c3, .slice a4 qc.length c4] 22 (0, 0)) := hW ▸ (heap_alloc_new _ _)
  have hY : W.heap[w2.heap.size]? = some (.cells #[] 41 (0, 0)) := hW ▸ ((((Below.heap_alloc _ _ _ (by omega)).trans (b4.block _ (by omega))).trans (b3.block _ (by change w2.heap.size < (w2.alloc _).heap.size; simp))).trans (heap_alloc_new w2 _))
  have bW : Below w2.heap.size w2 W := hW ▸ (b4'.alloc hs4 _)
  have hszW : W.heap.size = w4.heap.size + 1 := by rw [hW]; simp
  have rp : Rt W (.slice a3 pc.length c3) pc := hW ▸ (((own_rd op).below' b4).below' ((Below.refl _ _).alloc (Nat.le_refl _) _))
  have rq : Rt W (.slice a4 qc.length c4) qc := hW ▸ ((own_rd oq).below' ((Below.refl _ _).alloc (Nat.le_refl _) _))
  have hO := own_empty (B := w2.heap.size) (k := 2) hY (by omega)
  have hR := rsx_two (B := w2.heap.size) (x := .slice (some ⟨w2.heap.size, 0, none⟩) 0 0) hX (by omega) (by simp [Value.ownBlock]; omega) rp rq
    (fun b hb => by have h1 := (op.lt b hb).1; have h2 := (op.lt b hb).2; (try rw [hdrew] at h1); (try rw [World.size_alloc] at h1); refine ⟨by omega, fun e => ?_, by omega⟩; have e : w2.heap.size = b := (by simpa [Value.ownBlock] using e); omega)
    (fun b hb => by have h1 := (oq.lt b hb).1; have h2 := (oq.lt b hb).2; (try rw [hdrew] at h1); (try rw [World.size_alloc] at h1); refine ⟨by omega, fun e => ?_, by omega⟩; have e : w2.heap.size = b := (by simpa [Value.ownBlock] using e); omega)
  clear hW hX hY rp rq hszW op oq
  generalize hvR : Value.slice (some ⟨w4.heap.size, 0, none⟩) 2 2 = vR at hR ⊢
  generalize hvY : Value.slice (some ⟨w2.heap.size, 0, none⟩) 0 0 = vY at hR hO ⊢
  clear hvR hvY
  rotate_left
  all_goals (
    have HUA := Lib.hid hua
    have HUB := Lib.hid hub
    have oaW := own_below oa2 (hua.mono hs12) bW
    have obW := own_below ob hub bW
    have BW := B2.trans (bW.mono hB2)
    have hsW := bW.size
    go_wp2_with fail
    go_loopw [8, 9] (fun vp i wr => ∃ (j : Nat) (lf : List Lx.Tok), j ≤ lc.length ∧ i = .int .i64 j ∧ Hid (lf.length = lc.length) ∧ Hid (Le40 lf) ∧ wr.ownsRow w.heap.size 41 2 va lc.length (tcs lf) ∧ wr.ownsRow w2.heap.size 41 2 vp (noPar (lf.take j)).length (tcs (noPar (lf.take j))) ∧ Rsx wr w2.heap.size vR [pc, qc] vp ∧ wr.ownsRow w1.heap.size 41 2 vb kc.length (tcs kc) ∧ Below w.heap.size w wr ∧ w2.heap.size ≤ wr.heap.size) (fun _ i _ => lc.length - (intOf i).toNat)
    case atStart => exact ⟨0, lc, Nat.zero_le _, rfl, rfl, heach, own_mono oaW hs0, hO, hR, obW, BW, hsW⟩
    case round =>
      obtain ⟨j, lf, hj, rfl, HLF, HLE, hrow, hpl, hRx, hrb, hbw, hsz2⟩ := hrel
      by_cases hjl : j < lc.length
      · rcases hrow.2 with ⟨_, h0⟩ | ⟨g, cap, cur, hv, hgB, hgr, _⟩
        · omega
        · subst hv
          have hjf : j < lf.length := by rw [HLF.out]; exact hjl
          have z0 := own_at hrow (tcs_at lf j hjf).1
          have z1 := own_at hrow (tcs_at lf j hjf).2
          have f0 := own_free hrow (j * 2 + 1)
          have hg1 : g < w1.heap.size := HUA.out g rfl
          obtain ⟨⟨zz, s⟩, hzs⟩ : ∃ x, x = lf[j] := ⟨_, rfl⟩
          have hsl : s.length ≤ 40 := le40 HLE.out (zz, s) (by rw [hzs]; exact List.getElem_mem hjf)
          have hnp := noPar_take hjf
          rw [← hzs] at z0 z1 hnp
          have hnl := noPar_le (lf.take j)
          have hnl2 : (noPar (lf.take j)).length ≤ 30 := by
            rw [List.length_take] at hnl; omega
          have HNP := Lib.hid hnp
          have HZS := Lib.hid hzs
          clear hnp hzs hnl
          cases h7 : (zz == 7)
          · go_wp2_with (at_builtin; refine wp_app2 tyTok rfl _ _ rfl w2.heap.size hpl rfl rfl rfl rfl tc_one (by omega) (by omega) hsz2 ?_; intro v4 w4 o4 b4 g4 n4)
            go_roundw
            case rel =>
              have e1 : noPar (lf.take (j + 1)) = noPar (lf.take j) ++ [(zz, s)] := by
                rw [HNP.out, if_neg (by simpa using h7)]
              have e2 : (noPar (lf.take (j + 1))).length = (noPar (lf.take j)).length + 1 := by rw [e1]; simp
              have e3 : tcs (noPar (lf.take (j + 1))) = tcs (noPar (lf.take j)) ++ [.int .i64 zz, .string (S s)] := by rw [e1, tcs_snoc]
              exact ⟨j + 1, lf, by omega, by go_num, HLF, HLE, own_below hrow (HUA.out.mono hs12) b4, by rw [e2, e3]; exact o4, hRx.grown g4 n4, own_below hrb HUB.out b4, hbw.trans (b4.mono hB2), by have := g4.size; omega⟩
            case measure => simp [intOf]; omega
          · have h7z : zz = 7 := by simpa using h7
            subst h7z
            have al : Below wr.heap.size wr (wr.alloc (.cells #[.string (S [49]), .string (S [50]), .string (S [51])] 9)) := (Below.refl _ _).alloc (Nat.le_refl _) _
            have hgw : g < wr.heap.size := by omega
            have y1 : (wr.alloc (.cells #[.string (S [49]), .string (S [50]), .string (S [51])] 9)).cell? ⟨g, j * 2 + 1, none⟩ = some (.string (S s)) := by
              rw [World.cell?_of_block (w := wr) (al.block g hgw)]; exact z1
            have hr5 := own_below hrow (fun b hb => (HUA.out.mono (Nat.le_trans hs12 hsz2)) b hb) al
            have y2 := own_free hr5 (j * 2 + 1)
            have HLF2 : ∀ t : List UInt8, Hid ((lf.set j (7, t)).length = lc.length) := fun t => by rw [List.length_set]; exact HLF
            have HLE2 : ∀ t : List UInt8, t.length ≤ 40 → Hid (Le40 (lf.set j (7, t))) := fun x hx t ht => by
              rcases List.mem_or_eq_of_mem_set ht with ht | rfl
              · exact le40 HLE.out t ht
              · exact hx
            have hl7 : lf[j].1 = 7 := by rw [← HZS.out]
            have hgr6 : ∀ t : List UInt8, wr.grownBy (wr.setCell ⟨g, j * 2 + 1, none⟩ (.string (S t))) (some g) := fun t => setCell_grown wr ⟨g, j * 2 + 1, none⟩ (.string (S t))
            have al6 : ∀ t : List UInt8, Below (wr.setCell ⟨g, j * 2 + 1, none⟩ (.string (S t))).heap.size (wr.setCell ⟨g, j * 2 + 1, none⟩ (.string (S t))) ((wr.setCell ⟨g, j * 2 + 1, none⟩ (.string (S t))).alloc (.cells #[.string (S [49]), .string (S [50]), .string (S [51])] 9)) := fun t => (Below.refl _ _).alloc (Nat.le_refl _) _
            have HSET1 : ∀ t : List UInt8, ((wr.setCell ⟨g, j * 2 + 1, none⟩ (.string (S t))).alloc (.cells #[.string (S [49]), .string (S [50]), .string (S [51])] 9)).ownsRow w.heap.size 41 2 (.slice (some ⟨g, 0, none⟩) lc.length cap) lc.length (tcs (lf.set j (7, t))) := fun t => by
              have h := own_setk hrow (j * 2 + 1) (.string (S t))
              rw [tcs_setS lf j hjf, hl7] at h
              exact h.alloc _
            have HSET2 : ∀ t : List UInt8, ((wr.setCell ⟨g, j * 2 + 1, none⟩ (.string (S t))).alloc (.cells #[.string (S [49]), .string (S [50]), .string (S [51])] 9)).ownsRow w2.heap.size 41 2 u8 (noPar ((lf.set j (7, t)).take (j + 1))).length (tcs (noPar ((lf.set j (7, t)).take (j + 1)))) := fun t => by
              have e : noPar ((lf.set j (7, t)).take (j + 1)) = noPar (lf.take j) := by
                rw [take_set_snoc lf j hjf, noPar, List.filter_append]; simp [noPar]
              rw [e]
              exact (hpl.kept (hgr6 t) (.inr fun e => by have := (hpl.lt g e).1; omega)).alloc _
            have HSET3 : ∀ t : List UInt8, Rsx ((wr.setCell ⟨g, j * 2 + 1, none⟩ (.string (S t))).alloc (.cells #[.string (S [49]), .string (S [50]), .string (S [51])] 9)) w2.heap.size vR [pc, qc] u8 := fun t => (hRx.apart (hgr6 t) (by omega)).below' (al6 t)
            have HSET4 : ∀ t : List UInt8, ((wr.setCell ⟨g, j * 2 + 1, none⟩ (.string (S t))).alloc (.cells #[.string (S [49]), .string (S [50]), .string (S [51])] 9)).ownsRow w1.heap.size 41 2 vb kc.length (tcs kc) := fun t =>
              (hrb.kept (hgr6 t) (.inr fun e => by have := (hrb.lt g e).1; omega)).alloc _
            have HSET6 : ∀ t : List UInt8, w2.heap.size ≤ ((wr.setCell ⟨g, j * 2 + 1, none⟩ (.string (S t))).alloc (.cells #[.string (S [49]), .string (S [50]), .string (S [51])] 9)).heap.size := fun t => by
              have := (hgr6 t).size
              rw [World.size_alloc]
              omega
            have HSET5 : ∀ t : List UInt8, Below w.heap.size w ((wr.setCell ⟨g, j * 2 + 1, none⟩ (.string (S t))).alloc (.cells #[.string (S [49]), .string (S [50]), .string (S [51])] 9)) := fun t => (hbw.setCell hgB _).alloc (hbw.setCell hgB _).size _
            have S1 := Lib.hid HSET1
            have S2 := Lib.hid HSET2
            have S3 := Lib.hid HSET3
            have S4 := Lib.hid HSET4
            have S5 := Lib.hid HSET5
            have S6 := Lib.hid HSET6
            rcases (by omega : s.length % 3 = 0 ∨ s.length % 3 = 1 ∨ s.length % 3 = 2) with hm | hm | hm
            · have y3 : (wr.alloc (.cells #[.string (S [49]), .string (S [50]), .string (S [51])] 9)).cell? ⟨wr.heap.size, 0, none⟩ = some (.string (S [49])) := row_cell (heap_alloc_new _ _) 0
              have hq : (s.length : Int).tmod 3 = 0 := by rw [Int.tmod_eq_emod_of_nonneg (by omega)]; omega
              clear hua hrow hpl hRx hrb hbw hr5 al al6 hgr6 HSET1 HSET3 HSET2 HSET4 HSET5 HSET6
              go_wp2_with fail
              go_roundw
              case rel => exact ⟨j + 1, lf.set j (7, [49]), by omega, by go_num, HLF2 _, HLE2 _ (by decide), S1.out _, S2.out _ , S3.out _, S4.out _, S5.out _, S6.out _⟩
              case measure => simp [intOf]; omega
            · have y3 : (wr.alloc (.cells #[.string (S [49]), .string (S [50]), .string (S [51])] 9)).cell? ⟨wr.heap.size, 1, none⟩ = some (.string (S [50])) := row_cell (heap_alloc_new _ _) 1
              have hq : (s.length : Int).tmod 3 = 1 := by rw [Int.tmod_eq_emod_of_nonneg (by omega)]; omega
              clear hua hrow hpl hRx hrb hbw hr5 al al6 hgr6 HSET1 HSET3 HSET2 HSET4 HSET5 HSET6
              go_wp2_with fail
              go_roundw
              case rel => exact ⟨j + 1, lf.set j (7, [50]), by omega, by go_num, HLF2 _, HLE2 _ (by decide), S1.out _, S2.out _ , S3.out _, S4.out _, S5.out _, S6.out _⟩
              case measure => simp [intOf]; omega
            · have y3 : (wr.alloc (.cells #[.string (S [49]), .string (S [50]), .string (S [51])] 9)).cell? ⟨wr.heap.size, 2, none⟩ = some (.string (S [51])) := row_cell (heap_alloc_new _ _) 2
              have hq : (s.length : Int).tmod 3 = 2 := by rw [Int.tmod_eq_emod_of_nonneg (by omega)]; omega
              clear hua hrow hpl hRx hrb hbw hr5 al al6 hgr6 HSET1 HSET3 HSET2 HSET4 HSET5 HSET6
              go_wp2_with fail
              go_roundw
              case rel => exact ⟨j + 1, lf.set j (7, [51]), by omega, by go_num, HLF2 _, HLE2 _ (by decide), S1.out _, S2.out _ , S3.out _, S4.out _, S5.out _, S6.out _⟩
              case measure => simp [intOf]; omega
      · obtain rfl : j = lc.length := by omega
        rw [← HLF.out, List.take_length] at hpl
        obtain ⟨a9, c9, rfl⟩ := own_shape hrow
        have hlf : lf.length ≤ 30 := by rw [HLF.out]; exact hlen
        have hplen := noPar_le lf
        obtain ⟨pl, hpl2⟩ : ∃ pl, pl = noPar lf := ⟨_, rfl⟩
        rw [← hpl2] at hpl hplen
        have HPL := Lib.hid hpl2
        clear hpl2 HLE hjl hj oaW obW hR hO bW BW
        have HROW := Lib.hid hrow
        have HPLO := Lib.hid hpl
        have HRX := Lib.hid hRx
        clear hrow hpl hRx
        go_wp2_with fail
        go_loopw [10] (fun i wr2 => ∃ (j : Nat) (kf : List Lx.Tok), j ≤ kc.length ∧ i = .int .i64 j ∧ Hid (kf.length = kc.length) ∧ wr2.ownsRow w1.heap.size 41 2 vb kc.length (tcs kf) ∧ wr2.ownsRow w.heap.size 41 2 (.slice a9 lc.length c9) lc.length (tcs lf) ∧ wr2.ownsRow w2.heap.size 41 2 u8 pl.length (tcs pl) ∧ Rsx wr2 w2.heap.size vR [pc, qc] u8 ∧ Below w.heap.size w wr2 ∧ w2.heap.size ≤ wr2.heap.size) (fun i _ => kc.length - (intOf i).toNat)
        case atStart => exact ⟨0, kc, Nat.zero_le _, rfl, rfl, hrb, HROW.out, HPLO.out, HRX.out, hbw, hsz2⟩
        case round =>
          obtain ⟨j, kf, hj, rfl, HKF, hrb2, hrow, hpl, hRx, hbw2, hsz3⟩ := hrel
          by_cases hjk : j < kc.length
          · rcases hrb2.2 with ⟨_, h0⟩ | ⟨g, cap, cur, hv, hgB, hgr, _⟩
            · omega
            · subst hv
              have hjf : j < kf.length := by rw [HKF.out]; exact hjk
              have z0 := own_at hrb2 (tcs_at kf j hjf).1
              have z1 := own_at hrb2 (tcs_at kf j hjf).2
              have f0 := own_free hrb2 (j * 2 + 1)
              have hg2 : g < w2.heap.size := HUB.out g rfl
              obtain ⟨⟨zz, s⟩, hzs⟩ : ∃ x, x = kf[j] := ⟨_, rfl⟩
              have hset := own_setk hrb2 (j * 2 + 1) (.string (S [50]))
              rw [tcs_setS kf j hjf] at hset
              rw [← hzs] at z0 z1 hset
              clear hzs
              have hgr6 : wr.grownBy (wr.setCell ⟨g, j * 2 + 1, none⟩ (.string (S [50]))) (some g) := setCell_grown wr ⟨g, j * 2 + 1, none⟩ (.string (S [50]))
              have T1 := Lib.hid hset
              have T2 := Lib.hid (hrow.kept hgr6 (.inr fun e => by have := HUA.out g e; omega))
              have T3 := Lib.hid (hpl.kept hgr6 (.inr fun e => by have := (hpl.lt g e).1; omega))
              have T4 := Lib.hid (hRx.apart hgr6 (by omega))
              have T5 := Lib.hid (hbw2.setCell (p := ⟨g, j * 2 + 1, none⟩) (by have := B1.size; change w.heap.size ≤ g; omega) (.string (S [50])))
              have T6 := Lib.hid (Nat.le_trans hsz3 hgr6.size)
              have T7 := Lib.hid (show (kf.set j (zz, [50])).length = kc.length by rw [List.length_set]; exact HKF.out)
              have Hrb2 := Lib.hid hrb2
              have Hrow := Lib.hid hrow
              have Hpl := Lib.hid hpl
              have HRx := Lib.hid hRx
              have Hbw2 := Lib.hid hbw2
              clear hset hrb2 hrow hpl hRx hbw2 hgr6 hub ob hrb
              go_wp2_with fail
              all_goals (
                go_roundw
                case rel => first
                  | exact ⟨j + 1, kf, by omega, by go_num, HKF, Hrb2.out, Hrow.out, Hpl.out, HRx.out, Hbw2.out, hsz3⟩
                  | exact ⟨j + 1, kf.set j (zz, [50]), by omega, by go_num, T7, T1.out, T2.out, T3.out, T4.out, T5.out, T6.out⟩
                  | fail
                case measure => simp [intOf]; omega)
          · obtain rfl : j = kc.length := by omega
            obtain ⟨a8, c8, rfl⟩ := own_shape hrb2
            have hkf : kf.length ≤ 30 := by rw [HKF.out]; exact hlen2
            have ra := own_rd hrow
            have rb := own_rd hrb2
            have rta : Rt wr (.slice a9 lc.length c9) lf := by rw [Rt, HLF.out]; exact ra
            have rtb : Rt wr (.slice a8 kc.length c8) kf := by rw [Rt, HKF.out]; exact rb
            have rp := own_rd hpl
            have rs := hRx.rts
            clear hrow hrb2 hpl hRx hjk hj hub ob hrb HROW HPLO HRX hbw oa2 hua
            have hown0 := World.ownsRow_made (base := wr.heap.size) (e := 41) (size := 2) wr #[] 0 (Nat.le_refl _) (by decide) rfl
            have al : Below wr.heap.size wr (wr.alloc (.cells #[] 41)) := (Below.refl _ _).alloc (Nat.le_refl _) _
            have ral := Rd.below' ra al
            go_wp2_with (first
              | (at_builtin; refine wp_app_all tyTok rfl _ _ rfl wr.heap.size hown0 ral rfl rfl tcs_one (by omega) (by omega) (by simp) ?_; clear hown0 ral; intro v3 w3 o3 b3 _)
              | (at_builtin; refine wp_app_all tyTok rfl _ _ rfl wr.heap.size o3 (Rd.below' rb (al.trans b3)) rfl rfl tcs_one (by omega) (by omega) (by have h5 := b3.size; simp at h5; omega) ?_; clear o3; intro v5 w5 o5 b5 _)
              | fail)
            have c5 := (al.trans b3).trans b5
            have r5 : Rt w5 v5 (lf ++ kf) := by
              have h := own_rd o5
              rw [Rt, tcs_append, List.length_append, HLF.out, HKF.out]
              simpa using h
            have h34 : ∀ x ∈ [pc, qc], x.length ≤ 20 := by
              intro x hx
              simp at hx
              rcases hx with rfl | rfl <;> assumption
            have hfl1 := fill_le h34 lf
            have hfl2 := fill_le h34 kf
            have H34 := Lib.hid h34
            have HFB := Lib.hid (fill_append [pc, qc] lf kf)
            obtain ⟨f1, hf1⟩ : ∃ x, x = Mx.fill [pc, qc] lf := ⟨_, rfl⟩
            obtain ⟨f2, hf2⟩ : ∃ x, x = Mx.fill [pc, qc] kf := ⟨_, rfl⟩
            rw [← hf1] at hfl1 HFB
            rw [← hf2] at hfl2 HFB
            have HF1 := Lib.hid hf1
            have HF2 := Lib.hid hf2
            have hb1 : f1.length ≤ 700 := by omega
            have hb2 : f2.length ≤ 700 := by omega
            have hpl30 : pl.length ≤ 30 := by omega
            have HPL0 := Lib.hid (show Mx.fill [] lf = pl by rw [fill_nil]; exact HPL.out.symm)
            have HPL1 := Lib.hid (show Mx.fill [pc, qc] pl = pl by rw [HPL.out]; exact fill_noPar _ _)
            have hown5 := World.ownsRow_made (base := w5.heap.size) (e := 41) (size := 2) w5 #[] 0 (Nat.le_refl _) (by decide) rfl
            have al5 : Below w5.heap.size w5 (w5.alloc (.cells #[] 41)) := (Below.refl _ _).alloc (Nat.le_refl _) _
            have c5a := c5.trans (al5.mono c5.size)
            have HRTA := Lib.hid rta
            have HRTB := Lib.hid rtb
            have HRP := Lib.hid rp
            have HRS := Lib.hid rs
            have HR5 := Lib.hid r5
            clear hf1 hf2 hfl1 hfl2 h34 o5 b3 b5 al ra rb rta rtb rp rs r5 hplen
            (with_reducible refine (fill_any _ _ _ _ _ (HRTA.out.below' c5a) (Rts.below' HRS.out c5a) (by omega) (fun x hx => by have := H34.out x hx; omega)).mono ?_); rintro e w6 ⟨vf, rfl, of, b6⟩
            rw [← HF1.out] at of
            have hown6 := own_below hown5 (own_under hown5) b6
            have c6 := c5a.trans (b6.mono c5a.size)
            have d6 := al5.trans (b6.mono al5.size)
            have hs56 : w5.heap.size ≤ w6.heap.size := d6.size
            clear hown5 b6
            go_wp2_with (first
              | (at_builtin; refine wp_app_all tyTok rfl _ _ rfl w5.heap.size hown6 (own_rd of) rfl rfl tcs_one (by omega) (by omega) hs56 ?_; clear hown6 of; intro v7 w7 o7 b7 _)
              | fail)
            have c7 := c6.trans (b7.mono c5.size)
            have d7 := d6.trans b7
            clear b7
            (with_reducible refine (fill_any _ _ _ _ _ (HRTB.out.below' c7) (Rts.below' HRS.out c7) (by omega) (fun x hx => by have := H34.out x hx; omega)).mono ?_); rintro e w8 ⟨vg, rfl, og, b8⟩
            rw [← HF2.out] at og
            have o78 := own_below o7 (own_under o7) b8
            have c8 := c7.trans (b8.mono c7.size)
            have d8 := d7.trans (b8.mono d7.size)
            have hs58 : w5.heap.size ≤ w8.heap.size := d8.size
            clear o7 b8
            go_wp2_with (first
              | (at_builtin; refine wp_app_all tyTok rfl _ _ rfl w5.heap.size o78 (own_rd og) rfl rfl tcs_one (by omega) (by omega) hs58 ?_; clear o78 og; intro v9 w9 o9 b9 _)
              | fail)
            have c9 := c8.trans (b9.mono c5.size)
            have d9 := d8.trans b9
            have rw9 : Rt w9 v9 (f1 ++ f2) := by
              have h := own_rd o9
              rw [Rt, tcs_append, List.length_append]
              simpa using h
            have ra9 := HRTA.out.below' c9
            have rp9 : Rt w9 u8 pl := Rd.below' HRP.out c9
            have rs9 := Rts.below' HRS.out c9
            have rb9 := HR5.out.below' d9
            have B9 := hbw2.trans (c9.mono hbw2.size)
            clear c5 c5a c6 d6 c7 d7 c8 d8 c9 d9 o9 b9 HRTA HRTB HRP HRS HR5 al5 hbw2
            (with_reducible refine (fill_any _ _ lf [] _ ra9 (Rts.nil _) (by omega) (fun x hx => by simp at hx)).mono ?_); rintro e wa ⟨va1, rfl, oa1, ba1⟩
            rw [HPL0.out] at oa1
            have ra1 := rt_of_own' oa1
            have rpA := Rt.below' rp9 ba1
            have rsA := Rts.below' rs9 ba1
            have rbA := rb9.below' ba1
            have rwA := rw9.below' ba1
            have BA := B9.trans (ba1.mono B9.size)
            clear ra9 rp9 rs9 rb9 rw9 B9 oa1 ba1
            go_wp2_with fail
            (with_reducible refine (refs_any _ _ _ ra1 (by omega)).mono ?_); rintro e x1 ⟨vq1, rfl, oq1, y1⟩
            have q1 := rt_of_own' oq1
            clear oq1
            have rpA := Rt.below' rpA y1
            have rsA := Rts.below' rsA y1
            have rbA := Rt.below' rbA y1
            have rwA := Rt.below' rwA y1
            have B1 := BA.trans (y1.mono BA.size)
            clear y1 BA
            go_wp2_with fail
            (with_reducible refine (refs_any _ _ _ rpA (by omega)).mono ?_); rintro e x2 ⟨vq2, rfl, oq2, y2⟩
            have q2 := rt_of_own' oq2
            clear oq2
            have q1 := Rt.below' q1 y2
            have rpA := Rt.below' rpA y2
            have rsA := Rts.below' rsA y2
            have rbA := Rt.below' rbA y2
            have rwA := Rt.below' rwA y2
            have B2 := B1.trans (y2.mono B1.size)
            clear y2 B1
            go_wp2_with fail
            (with_reducible refine (same_any _ _ _ _ _ q1 q2 (by omega) (by omega)).mono ?_); rintro e x3 ⟨rfl, y3⟩
            rw [show (_ == _) = true from by simp]
            have rpA := Rt.below' rpA y3
            have rsA := Rts.below' rsA y3
            have rbA := Rt.below' rbA y3
            have rwA := Rt.below' rwA y3
            have B3 := B2.trans (y3.mono B2.size)
            clear y3 B2
            go_wp2_with fail
            (with_reducible refine (fill_any _ _ _ _ _ rpA rsA (by omega) (fun x hx => by have := H34.out x hx; omega)).mono ?_); rintro e x4 ⟨vq4, rfl, oq4, y4⟩
            rw [HPL1.out] at oq4
            have q3 := rt_of_own' oq4
            clear oq4
            have rpA := Rt.below' rpA y4
            have rsA := Rts.below' rsA y4
            have rbA := Rt.below' rbA y4
            have rwA := Rt.below' rwA y4
            have B4 := B3.trans (y4.mono B3.size)
            clear y4 B3
            go_wp2_with fail
            (with_reducible refine (refs_any _ _ _ q3 (by omega)).mono ?_); rintro e x5 ⟨vq5, rfl, oq5, y5⟩
            have q4 := rt_of_own' oq5
            clear oq5
            have rpA := Rt.below' rpA y5
            have rsA := Rts.below' rsA y5
            have rbA := Rt.below' rbA y5
            have rwA := Rt.below' rwA y5
            have B5 := B4.trans (y5.mono B4.size)
            clear y5 B4
            go_wp2_with fail
            (with_reducible refine (refs_any _ _ _ rpA (by omega)).mono ?_); rintro e x6 ⟨vq6, rfl, oq6, y6⟩
            have q5 := rt_of_own' oq6
            clear oq6
            have q4 := Rt.below' q4 y6
            have rsA := Rts.below' rsA y6
            have rbA := Rt.below' rbA y6
            have rwA := Rt.below' rwA y6
            have B6 := B5.trans (y6.mono B5.size)
            clear y6 B5
            go_wp2_with fail
            (with_reducible refine (same_any _ _ _ _ _ q4 q5 (by omega) (by omega)).mono ?_); rintro e x7 ⟨rfl, y7⟩
            rw [show (_ == _) = true from by simp]
            have rsA := Rts.below' rsA y7
            have rbA := Rt.below' rbA y7
            have rwA := Rt.below' rwA y7
            have B7 := B6.trans (y7.mono B6.size)
            clear y7 B6
            go_wp2_with fail
            (with_reducible refine (fill_any _ _ _ _ _ rbA rsA (by simp; omega) (fun x hx => by have := H34.out x hx; omega)).mono ?_); rintro e x8 ⟨vq8, rfl, oq8, y8⟩
            rw [HFB.out] at oq8
            have rf3 := rt_of_own' oq8
            clear oq8
            have rwA := Rt.below' rwA y8
            have B8 := B7.trans (y8.mono B7.size)
            clear y8 B7
            go_wp2_with fail
            (with_reducible refine (refs_any _ _ _ rf3 (by simp; omega)).mono ?_); rintro e x9 ⟨vq9, rfl, oq9, y9⟩
            have q6 := rt_of_own' oq9
            clear oq9
            have rwA := Rt.below' rwA y9
            have B9 := B8.trans (y9.mono B8.size)
            clear y9 B8
            go_wp2_with fail
            (with_reducible refine (refs_any _ _ _ rwA (by simp; omega)).mono ?_); rintro e x10 ⟨vq10, rfl, oq10, y10⟩
            have q7 := rt_of_own' oq10
            clear oq10
            have q6 := Rt.below' q6 y10
            have B10 := B9.trans (y10.mono B9.size)
            clear y10 B9
            go_wp2_with fail
            (with_reducible refine (same_any _ _ _ _ _ q6 q7 (by simp; omega) (by simp; omega)).mono ?_); rintro e x11 ⟨rfl, y11⟩
            rw [show (_ == _) = true from by simp]
            have B11 := B10.trans (y11.mono B10.size)
            clear y11 B10
            go_wp2_with fail
            (with_reducible refine (macFixed_any _).mono ?_); rintro e x99 ⟨rfl, y99⟩
            go_wp2_with fail
            go_ret
            exact ⟨rfl, B11.trans (y99.mono B11.size)⟩
  )

end Go.Proofs.Ytkpdhpbnbpjceaa
