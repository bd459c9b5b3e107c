
/- Boxes of one cell beside rows: what 'Parse' keeps in memory; its three closures, walked. No condition. -/
import Derived.Test.YtcdclkgfgieppaaItRightP
namespace Go.Proofs.Ytcdclkgfgieppaa
open Go.RowKit Go.Maps

/-- Block b is a box: one cell of type t, which holds v. -/
def Bx (w : World) (b : Nat) (t : TypeId) (v : Value) : Prop := w.heap[b]? = some (.cells #[v] t (0, 0))
theorem Bx.lt {w : World} {b : Nat} {t : TypeId} {v : Value} (h : Bx w b t v) : b < w.heap.size := row_lt h
theorem Bx.cell {w : World} {b : Nat} {t : TypeId} {v : Value} (h : Bx w b t v) : w.cell? ⟨b, 0, none⟩ = some v := (row_cell h 0).trans rfl
theorem Bx.free {w : World} {b : Nat} {t : TypeId} {v : Value} (h : Bx w b t v) : w.frozen? ⟨b, 0, none⟩ = false := row_free h 0
theorem Bx.kept {w w' : World} {row : Option Nat} {b : Nat} {t : TypeId} {v : Value} (h : Bx w b t v) (hg : w.grownBy w' row) (hne : some b ≠ row) : Bx w' b t v := (hg.block b h.lt hne).trans h
theorem Bx.below {w w' : World} {b : Nat} {t : TypeId} {v : Value} (h : Bx w b t v) (hb : Below w.heap.size w w') : Bx w' b t v := (hb.block b h.lt).trans h
theorem Bx.set {w : World} {b : Nat} {t : TypeId} {v : Value} (h : Bx w b t v) (v' : Value) : Bx (w.setCell ⟨b, 0, none⟩ v') b t v' := row_set h 0 v'
theorem Bx.ne_row {w : World} {b : Nat} {t e : TypeId} {u : Value} (h : Bx w b t u) (hte : t ≠ e) {B k n : Nat} {v : Value} {xs : List Value} (hr : w.ownsRow B e k v n xs) : some b ≠ v.ownBlock := by
  rcases hr.2 with ⟨rfl, _⟩ | ⟨g, cap, cur, rfl, _, hgb, _⟩
  · simp [Value.ownBlock]
  · intro e'
    obtain rfl : b = g := by simpa [Value.ownBlock] using e'
    have := (show w.heap[b]? = _ from h).symm.trans hgb
    simp at this
    exact hte this.2
theorem Bx.ne {w : World} {b c : Nat} {t e : TypeId} {u v : Value} (h : Bx w b t u) (hc : Bx w c e v) (hte : t ≠ e) : b ≠ c := fun e' => by
  subst e'
  have := (show w.heap[b]? = _ from h).symm.trans hc
  simp at this
  exact hte this.2
theorem rows_ne {w : World} {B B2 k k2 n n2 : Nat} {d e : TypeId} {u v : Value} {xs ys : List Value} (h : w.ownsRow B d k u n xs) (h2 : w.ownsRow B2 e k2 v n2 ys) (hde : d ≠ e) : u.ownBlock = none ∨ u.ownBlock ≠ v.ownBlock := by
  rcases h.2 with ⟨rfl, _⟩ | ⟨g, cap, cur, rfl, _, hg, _⟩
  · exact .inl rfl
  · right
    exact Ne.symm (by
      rcases h2.2 with ⟨rfl, _⟩ | ⟨g2, cap2, cur2, rfl, _, hg2, _⟩
      · simp [Value.ownBlock]
      · intro e'
        obtain rfl : g2 = g := by simpa [Value.ownBlock] using e'
        have := hg.symm.trans hg2
        simp at this
        exact hde this.2)
theorem grown_set (w : World) (b : Nat) (v : Value) : w.grownBy (w.setCell ⟨b, 0, none⟩ v) (some b) :=
  ⟨rfl, rfl, rfl, (by simp [World.setCell]), fun k _ hk => Below.heap_setCell _ _ _ k (fun e => hk (by rw [e]))⟩
theorem map_ne_cells {w : World} {P : Program} {k : TypeId} {R : Value → Option (DataW Unit × List MemPlace)} {b n g : Nat} {D : DataW Unit} {cs : Array Value} {t : TypeId} {f : Nat × Nat} (h : w.ownsMap P k R b n D) (hg : w.heap[g]? = some (.cells cs t f)) : b ≠ g := fun e => by
  subst e
  obtain ⟨es, clock, h1, _⟩ := h
  rw [h1] at hg
  cases hg
theorem map_ne_row {w : World} {P : Program} {k : TypeId} {R : Value → Option (DataW Unit × List MemPlace)} {b n : Nat} {D : DataW Unit} (h : w.ownsMap P k R b n D) {B e kk m : Nat} {v : Value} {xs : List Value} (hr : w.ownsRow B e kk v m xs) : some b ≠ v.ownBlock := by
  rcases hr.2 with ⟨rfl, _⟩ | ⟨g, cap, cur, rfl, _, hg, _⟩
  · simp [Value.ownBlock]
  · intro e'
    exact map_ne_cells h hg (by simpa [Value.ownBlock] using e')

/-- What 'Parse' keeps: the items, the notes, the two boxes, the box of 'put', the commands. -/
structure PIn (w : World) (B bo bn bp bm : Nat) (out notes : List Lx.Tok) : Prop where
  p : Bx w bp 57 (.func (.func 26) #[] #[.pointer (some ⟨bo, 0, none⟩)])
  o : ∃ v, Bx w bo 23 v ∧ w.ownsRow B 49 2 v out.length (tcs out)
  n : ∃ v, Bx w bn 26 v ∧ w.ownsRow B 60 2 v notes.length (tcs notes)
  m : w.ownsMap Try.prog 9 readC bm 13 comD
  lo : B ≤ bo
  ln : B ≤ bn
  lp : B ≤ bp
theorem PIn.below {w w' : World} {B bo bn bp bm : Nat} {out notes : List Lx.Tok} (h : PIn w B bo bn bp bm out notes) (hb : Below w.heap.size w w') : PIn w' B bo bn bp bm out notes := by
  obtain ⟨vo, h1, h2⟩ := h.o
  obtain ⟨vn, h3, h4⟩ := h.n
  exact ⟨h.p.below hb, ⟨vo, h1.below hb, own_below h2 (own_under h2) hb⟩, ⟨vn, h3.below hb, own_below h4 (own_under h4) hb⟩, map_below h.m hb, h.lo, h.ln, h.lp⟩
theorem PIn.put {w w' : World} {B bo bn bp bm : Nat} {out notes : List Lx.Tok} (h : PIn w B bo bn bp bm out notes) {v v' : Value} (hv : Bx w bo 23 v) (hr : w.ownsRow B 49 2 v out.length (tcs out))
    {out' : List Lx.Tok} (hg : w.grownBy w' v.ownBlock) (hr' : w'.ownsRow B 49 2 v' out'.length (tcs out')) : PIn (w'.setCell ⟨bo, 0, none⟩ v') B bo bn bp bm out' notes := by
  obtain ⟨vn, h3, h4⟩ := h.n
  have e1 := hv.ne_row (by decide) hr
  have o1 := hv.kept hg e1
  have p1 := h.p.kept hg (h.p.ne_row (by decide) hr)
  have n1 := h3.kept hg (h3.ne_row (by decide) hr)
  have r1 := h4.kept hg (rows_ne h4 hr (by decide))
  have m1 := h.m.kept hg (map_ne_row h.m hr)
  have g2 := grown_set w' bo v'
  exact ⟨p1.kept g2 (fun e => p1.ne o1 (by decide) (Option.some.inj e)), ⟨v', o1.set v', hr'.kept g2 (.inr (fun e => (o1.ne_row (by decide) hr') e.symm))⟩,
    ⟨vn, n1.kept g2 (fun e => n1.ne o1 (by decide) (Option.some.inj e)), r1.kept g2 (.inr (fun e => (o1.ne_row (by decide) r1) e.symm))⟩,
    m1.kept g2 (fun e => map_ne_cells m1 o1 (Option.some.inj e)), h.lo, h.ln, h.lp⟩
theorem PIn.note {w w' : World} {B bo bn bp bm : Nat} {out notes : List Lx.Tok} (h : PIn w B bo bn bp bm out notes) {v v' : Value} (hv : Bx w bn 26 v) (hr : w.ownsRow B 60 2 v notes.length (tcs notes))
    {notes' : List Lx.Tok} (hg : w.grownBy w' v.ownBlock) (hr' : w'.ownsRow B 60 2 v' notes'.length (tcs notes')) : PIn (w'.setCell ⟨bn, 0, none⟩ v') B bo bn bp bm out notes' := by
  obtain ⟨vo, h3, h4⟩ := h.o
  have e1 := hv.ne_row (by decide) hr
  have o1 := hv.kept hg e1
  have p1 := h.p.kept hg (h.p.ne_row (by decide) hr)
  have n1 := h3.kept hg (h3.ne_row (by decide) hr)
  have r1 := h4.kept hg (rows_ne h4 hr (by decide))
  have m1 := h.m.kept hg (map_ne_row h.m hr)
  have g2 := grown_set w' bn v'
  exact ⟨p1.kept g2 (fun e => p1.ne o1 (by decide) (Option.some.inj e)), 
    ⟨vo, n1.kept g2 (fun e => n1.ne o1 (by decide) (Option.some.inj e)), r1.kept g2 (.inr (fun e => (o1.ne_row (by decide) r1) e.symm))⟩,
    ⟨v', o1.set v', hr'.kept g2 (.inr (fun e => (o1.ne_row (by decide) hr') e.symm))⟩,
    m1.kept g2 (fun e => map_ne_cells m1 o1 (Option.some.inj e)), h.lo, h.ln, h.lp⟩

theorem below_kept {B : Nat} {w w' : World} {e k n : Nat} {v : Value} {xs : List Value} (hr : w.ownsRow B e k v n xs) (hB : B ≤ w.heap.size) (hg : w.grownBy w' v.ownBlock) {b : Nat} (hb : B ≤ b) (v' : Value) : Below B w (w'.setCell ⟨b, 0, none⟩ v') :=
  ((Below.refl B w).grown hg hB (fun j hj => (hr.lt j hj).1)).setCell (p := ⟨b, 0, none⟩) hb v'

theorem PIn.row {w w' : World} {B bo bn bp bm : Nat} {out notes : List Lx.Tok} (h : PIn w B bo bn bp bm out notes) {v : Value} (hv : Bx w bo 23 v) (hr : w.ownsRow B 49 2 v out.length (tcs out))
    {out' : List Lx.Tok} (hg : w.grownBy w' v.ownBlock) (hr' : w'.ownsRow B 49 2 v out'.length (tcs out')) : PIn w' B bo bn bp bm out' notes := by
  obtain ⟨vn, h3, h4⟩ := h.n
  exact ⟨h.p.kept hg (h.p.ne_row (by decide) hr), ⟨v, hv.kept hg (hv.ne_row (by decide) hr), hr'⟩,
    ⟨vn, h3.kept hg (h3.ne_row (by decide) hr), h4.kept hg (rows_ne h4 hr (by decide))⟩, h.m.kept hg (map_ne_row h.m hr), h.lo, h.ln, h.lp⟩
theorem own_form {w : World} {B e k n : Nat} {v : Value} {xs : List Value} (h : w.ownsRow B e k v n xs) (hn : 0 < n) : ∃ g cap, v = .slice (some ⟨g, 0, none⟩) n cap := by
  rcases h.2 with ⟨_, h0⟩ | ⟨g, cap, _, rfl, _⟩
  · omega
  · exact ⟨g, cap, rfl⟩
theorem own_free9 {w : World} {B e k n g cap : Nat} {xs : List Value} (h : w.ownsRow B e k (.slice (some ⟨g, 0, none⟩) n cap) n xs) (j : Nat) : w.frozen? ⟨g, j, none⟩ = false := by
  rcases h.2 with ⟨h0, _⟩ | ⟨g', cap', cur, h0, _, hg, _⟩
  · cases h0
  · cases h0; exact row_free hg j
theorem tcs_set_last (a : List Lx.Tok) (k : Int) (y z : List UInt8) : (tcs (a ++ [(k, y)])).set (a.length * 2 + 1) (.string (S z)) = tcs (a ++ [(k, z)]) := by
  rw [tcs_snoc, tcs_snoc, List.set_append_right _ _ (by rw [tcs_length]; omega), tcs_length]
  rw [show a.length * 2 + 1 - a.length * 2 = 1 by omega]
  rfl

set_option maxHeartbeats 800000 in
/-- 'put'. -/
theorem put_any (w : World) (B bo bn bp bm : Nat) (out notes : List Lx.Tok) (h : PIn w B bo bn bp bm out notes) (hB : B ≤ w.heap.size) (hlen : out.length ≤ 1000000) (z : Int) (s : List UInt8) :
    Calls Try.prog 26 #[.agg #[.int .i64 z, .string (S s)], .pointer (some ⟨bo, 0, none⟩)] w fun e w' => e = .returned (.tuple #[]) ∧ PIn w' B bo bn bp bm (out ++ [(z, s)]) notes ∧ Below B w w' := by
  obtain ⟨v, hv, hr⟩ := h.o
  obtain ⟨X, hX⟩ : ∃ X, X = Obj.cells #[.int .i64 z, .string (S s)] 49 := ⟨_, rfl⟩
  have hx := h.below ((Below.refl w.heap.size w).alloc (Nat.le_refl _) X)
  have hvx := hv.below ((Below.refl w.heap.size w).alloc (Nat.le_refl _) X)
  have hrx := hr.alloc X
  have bx : Below B w (w.alloc X) := (Below.refl B w).alloc hB X
  have hBx := bx.size
  subst hX
  have c0 := hvx.cell
  have f0 := hvx.free
  go_enter Try.func26, Try.ntmps26
  go_wp2_with (first
    | (at_builtin; refine wp_app tyIt rfl _ _ rfl B hrx rfl rfl (by simp) rfl tc_one (by omega) (by omega) (by omega) ?_; intro v2 w2 hr2 b2 g2; have q1 := (hvx.kept g2 (hvx.ne_row (by decide) hrx)); have c1 := q1.cell; have f1 := q1.free; have l1 := q1.lt; obtain ⟨a2, k2, rfl⟩ := own_shape hr2)
    | fail)
  go_end0
  have e1 : tcs (out ++ [(z, s)]) = tcs out ++ [.int .i64 z, .string (S s)] := by simp [tcs, tc]
  refine ⟨rfl, ?_, bx.trans (below_kept hrx (Nat.le_trans hB hBx) g2 h.lo _)⟩
  refine hx.put hvx hrx g2 ?_
  rw [e1, List.length_append]; exact hr2

set_option maxHeartbeats 800000 in
/-- 'note'. -/
theorem note_any (w : World) (B bo bn bp bm : Nat) (out notes : List Lx.Tok) (h : PIn w B bo bn bp bm out notes) (hB : B ≤ w.heap.size) (hlen : notes.length ≤ 1000000) (z : Int) (s : List UInt8) :
    Calls Try.prog 27 #[.int .i64 z, .string (S s), .pointer (some ⟨bn, 0, none⟩)] w fun e w' => e = .returned (.tuple #[]) ∧ PIn w' B bo bn bp bm out (notes ++ [(z, s)]) ∧ Below B w w' := by
  obtain ⟨v, hv, hr⟩ := h.n
  have c0 := hv.cell
  have f0 := hv.free
  have e1 : tcs (notes ++ [(z, s)]) = tcs notes ++ [.int .i64 z, .string (S s)] := by simp [tcs, tc]
  go_enter Try.func27, Try.ntmps27
  go_wp2_with (first
    | (at_builtin; refine wp_app tyNote rfl _ _ rfl B hr rfl rfl rfl rfl tc_one (by omega) (by omega) hB ?_; intro v2 w2 hr2 b2 g2; have q1 := (hv.kept g2 (hv.ne_row (by decide) hr)); have c1 := q1.cell; have f1 := q1.free; have l1 := q1.lt; obtain ⟨a2, k2, rfl⟩ := own_shape hr2)
    | fail)
  go_end0
  refine ⟨rfl, ?_, below_kept hr hB g2 h.ln _⟩
  refine h.note hv hr g2 ?_
  rw [e1, List.length_append]; exact hr2

set_option maxHeartbeats 800000 in
/-- 'word'. -/
theorem word9_any (w : World) (B bo bn bp bm : Nat) (out notes : List Lx.Tok) (h : PIn w B bo bn bp bm out notes) (hB : B ≤ w.heap.size) (hlen : out.length ≤ 1000000) (s : List UInt8) (hs : s.length ≤ 1000000000) (hos : ∀ t ∈ out, t.2.length ≤ 1000000000) :
    Calls Try.prog 28 #[.string (S s), .pointer (some ⟨bo, 0, none⟩), .pointer (some ⟨bp, 0, none⟩)] w fun e w' => e = .returned (.tuple #[]) ∧ PIn w' B bo bn bp bm (It.word out s) notes ∧ Below B w w' := by
  obtain ⟨v, hv, hr⟩ := h.o
  have c0 := hv.cell
  have f0 := hv.free
  have c1 := h.p.cell
  have f1 := h.p.free
  rcases List.eq_nil_or_concat out with rfl | ⟨o', ⟨k, y⟩, rfl⟩
  · obtain ⟨a2, k2, rfl⟩ := own_shape hr
    by_cases h0 : s = []
    · subst h0
      go_enter Try.func28, Try.ntmps28
      simp only [S_lit]
      go_wp2_with fail
      go_end0
      exact ⟨rfl, h, Below.refl _ _⟩
    · have hie : s.isEmpty = false := by cases s with | nil => exact absurd rfl h0 | cons _ _ => rfl
      have hw : It.word [] s = [] ++ [(1, s)] := by simp [It.word, h0]
      go_enter Try.func28, Try.ntmps28
      simp only [S_lit]
      go_wp2_with (first | (go_at_call 26; (with_reducible refine (put_any _ B bo bn bp bm _ _ h hB (by simp) _ _).mono ?_); rintro e w2 ⟨rfl, h2, b2⟩) | fail)
      go_end0
      exact ⟨rfl, by rw [hw]; exact h2, b2⟩
  · rw [List.concat_eq_append] at *
    have hln : (o' ++ [(k, y)]).length = o'.length + 1 := by simp
    obtain ⟨b, cp, rfl⟩ := own_form hr (by omega)
    have hrt : Rt w (.slice (some ⟨b, 0, none⟩) (o' ++ [(k, y)]).length cp) (o' ++ [(k, y)]) := own_rd hr
    obtain ⟨b1, q1, hb1, d0, d1⟩ := Rt.at hrt (i := o'.length) (by omega)
    cases hb1
    rw [List.getElem_append_right (Nat.le_refl _)] at d0 d1
    simp only [Nat.sub_self, List.getElem_cons_zero, Nat.zero_add] at d0 d1
    have hy := hos (k, y) (by simp)
    have fr1 := own_free9 hr (o'.length * 2 + 1)
    rw [hln] at hlen
    have hwr : IntKind.i64.wrap ((o'.length : Int) + 1 - 1) = (o'.length : Int) := (Go.IntWalk.i64_left _).trans ((Go.IntWalk.wrap64_in _ (by omega)).trans (by omega))
    have hcast : ((o' ++ [(k, y)]).length : Int) = (o'.length : Int) + 1 := by rw [hln]; omega
    have hcc : ¬ 9223372036854775807 < List.length y + s.length := by simp only at hy; omega
    by_cases hk : k = 1
    · subst hk
      have hw : It.word (o' ++ [(1, y)]) s = o' ++ [(1, y ++ s)] := by simp [It.word]
      have hst := World.ownsRow.stored hr (o'.length * 2 + 1) (.string (S (y ++ s)))
      rw [tcs_set_last] at hst
      have hp := h.row hv hr hst.2 (out' := o' ++ [(1, y ++ s)]) (by have := hst.1; simpa using this)
      have hbb : Below B w (w.setCell ⟨b, o'.length * 2 + 1, none⟩ (.string (S (y ++ s)))) := (Below.refl B w).setCell (p := ⟨b, o'.length * 2 + 1, none⟩) (hr.lt b rfl).1 _
      clear hr hos hst hv h
      rw [hln] at *
      go_enter Try.func28, Try.ntmps28
      simp only [S_lit]
      go_wp2_with fail
      go_end0
      exact ⟨rfl, by first | exact hp | (rw [hw]; exact hp), hbb⟩
    · have hkb : (k == 1) = false := by simpa using hk
      by_cases h0 : s = []
      · subst h0
        have hw : It.word (o' ++ [(k, y)]) [] = o' ++ [(k, y)] := by
          simp only [It.word, List.getLast?_append, List.getLast?_singleton, Option.some_or]
          split
          · rename_i e; cases e; exact absurd rfl hk
          · rfl
        rw [hln] at c0
        clear hr hos hv
        go_enter Try.func28, Try.ntmps28
        simp only [S_lit]
        go_wp2_with fail
        go_end0
        exact ⟨rfl, by first | exact h | (rw [hw]; exact h), Below.refl _ _⟩
      · have hie : s.isEmpty = false := by cases s with | nil => exact absurd rfl h0 | cons _ _ => rfl
        have hw : It.word (o' ++ [(k, y)]) s = (o' ++ [(k, y)]) ++ [(1, s)] := by
          simp only [It.word, List.getLast?_append, List.getLast?_singleton, Option.some_or]
          split
          · rename_i e; cases e; exact absurd rfl hk
          · rw [if_neg h0]
        rw [hln] at c0
        clear hr hos hv
        go_enter Try.func28, Try.ntmps28
        simp only [S_lit]
        go_wp2_with (first | (go_at_call 26; (with_reducible refine (put_any _ B bo bn bp bm _ _ h hB (by omega) _ _).mono ?_); rintro e w2 ⟨rfl, h2, b2⟩) | fail)
        go_end0
        exact ⟨rfl, by first | exact h2 | (rw [hw]; exact h2), b2⟩

end Go.Proofs.Ytcdclkgfgieppaa
