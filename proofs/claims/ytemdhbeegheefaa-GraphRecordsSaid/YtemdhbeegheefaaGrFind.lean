
/- The finder of groups in memory; 'enter', 'leave', walked. No condition. -/
import Derived.Test.YtemdhbeegheefaaGrHeap
import Derived.Test.YtemdhbeegheefaaGrTar
import Derived.StillTailTactics
namespace Go.Proofs.Ytemdhbeegheefaa
open Go.RowKit Gr

/-- A row that lies alone in its block. -/
def Ro (w : World) (b : Nat) (T : TypeId) (cs : List Value) : Prop := w.heap[b]? = some (.cells cs.toArray T (0, 0))
theorem Ro.lt {w : World} {b : Nat} {T : TypeId} {cs : List Value} (h : Ro w b T cs) : b < w.heap.size := row_lt h
theorem Ro.cell {w : World} {b : Nat} {T : TypeId} {cs : List Value} (h : Ro w b T cs) {i : Nat} {u : Value} (hi : cs[i]? = some u) : w.cell? ⟨b, i, none⟩ = some u := by rw [row_cell h]; simpa using hi
theorem Ro.free {w : World} {b : Nat} {T : TypeId} {cs : List Value} (h : Ro w b T cs) (i : Nat) : w.frozen? ⟨b, i, none⟩ = false := row_free h i
theorem Ro.set {w : World} {b : Nat} {T : TypeId} {cs : List Value} (h : Ro w b T cs) (i : Nat) (u : Value) : Ro (w.setCell ⟨b, i, none⟩ u) b T (cs.set i u) := by
  have := row_set h i u
  simpa [Ro] using this
theorem Ro.kw {w w' : World} {p : Nat → Prop} {b : Nat} {T : TypeId} {cs : List Value} (h : Ro w b T cs) (hk : Kw w w' p) (hp : ¬ p b) : Ro w' b T cs := (hk.block b h.lt hp).trans h
theorem Ro.far {w : World} {b g : Nat} {T : TypeId} {cs : List Value} (h : Ro w b T cs) (hne : b ≠ g) (i : Nat) (u : Value) : Ro (w.setCell ⟨g, i, none⟩ u) b T cs := h.kw (Kw.set w g i u) hne
theorem Ro.ne {w : World} {a b : Nat} {T U : TypeId} {cs ds : List Value} (h : Ro w a T cs) (k : Ro w b U ds) (ht : T ≠ U) : a ≠ b := fun e => by
  subst e
  have := (show w.heap[a]? = _ from h).symm.trans k
  simp at this
  exact ht this.2
theorem Ro.ne_own {w : World} {b : Nat} {T e : TypeId} {cs : List Value} (h : Ro w b T cs) (hte : T ≠ e) {B k n : Nat} {v : Value} {xs : List Value} (hr : w.ownsRow B e k v n xs) : v.ownBlock ≠ some b := fun hg => by
  rcases hr.2 with ⟨rfl, _⟩ | ⟨g', cap, cur, rfl, _, hgb, _⟩
  · simp [Value.ownBlock] at hg
  · obtain rfl : g' = b := by simpa [Value.ownBlock] using hg
    have := (show w.heap[g']? = _ from h).symm.trans hgb
    simp at this
    exact hte this.2

/-- A state of the search. -/
structure St where
  idx : List Nat
  low : List Nat
  on : List Bool
  stack : List Nat
  cnt : Nat
  grp : List Nat
  many : Nat

/-- The cells of truth values. -/
abbrev bls (l : List Bool) : List Value := l.map Value.bool
/-- The finder in memory: where it lies, where its rows lie. -/
structure At where
  f : Nat
  i : Nat
  l : Nat
  o : Nat
  g : Nat
/-- The finder's own cells. -/
abbrev fdCells (A : At) (n : Nat) (vg vs : Value) (s : St) : List Value :=
  [vg, .slice (some ⟨A.i, 0, none⟩) n n, .slice (some ⟨A.l, 0, none⟩) n n, .slice (some ⟨A.o, 0, none⟩) n n, vs, .int .i64 s.cnt, .slice (some ⟨A.g, 0, none⟩) n n, .int .i64 s.many]
structure Fd (w : World) (B : Nat) (A : At) (n : Nat) (vg vs : Value) (s : St) : Prop where
  box : Ro w A.f 47 (fdCells A n vg vs s)
  ri : Ro w A.i 3 (ints (nn s.idx))
  rl : Ro w A.l 3 (ints (nn s.low))
  ro : Ro w A.o 4 (bls s.on)
  rg : Ro w A.g 3 (ints (nn s.grp))
  stk : w.ownsRow B 3 1 vs s.stack.length (ints (nn s.stack))
  li : s.idx.length = n
  ll : s.low.length = n
  lo : s.on.length = n
  lg : s.grp.length = n
  il : A.i ≠ A.l
  ig : A.i ≠ A.g
  lgn : A.l ≠ A.g
  si : vs.ownBlock ≠ some A.i
  sl : vs.ownBlock ≠ some A.l
  sg : vs.ownBlock ≠ some A.g
/-- Nothing turns but the finder. -/
abbrev pF (A : At) (vs : Value) : Nat → Prop := fun j => j = A.f ∨ j = A.i ∨ j = A.l ∨ j = A.o ∨ j = A.g ∨ vs.ownBlock = some j

theorem row_far {W : World} {g b : Nat} {r : Array Value} {T : TypeId} {f : Nat × Nat} (h : W.heap[g]? = some (.cells r T f)) (hne : g ≠ b) (j : Nat) (v : Value) : (W.setCell ⟨b, j, none⟩ v).heap[g]? = some (.cells r T f) := ((Kw.set W b j v).block g (row_lt h) hne).trans h
theorem nn_at (l : List Nat) (i : Nat) (h : i < l.length) : (ints (nn l))[i]? = some (.int .i64 (l[i] : Int)) := by simp [ints, h]
theorem nn_set (l : List Nat) (i x : Nat) : (ints (nn l)).set i (.int .i64 (x : Int)) = ints (nn (l.set i x)) := by simp [ints, List.map_set]
theorem nn_len (l : List Nat) : (ints (nn l)).length = l.length := by simp [ints]

theorem Fd.kw {w w' : World} {B : Nat} {A : At} {n : Nat} {vg vs : Value} {s : St} {p : Nat → Prop} (h : Fd w B A n vg vs s) (hk : Kw w w' p) (hf : ¬ p A.f) (hi : ¬ p A.i) (hl : ¬ p A.l) (ho : ¬ p A.o) (hg : ¬ p A.g) (hs : ∀ b, vs.ownBlock = some b → ¬ p b) : Fd w' B A n vg vs s :=
  ⟨h.box.kw hk hf, h.ri.kw hk hi, h.rl.kw hk hl, h.ro.kw hk ho, h.rg.kw hk hg, hk.row h.stk hs, h.li, h.ll, h.lo, h.lg, h.il, h.ig, h.lgn, h.si, h.sl, h.sg⟩
theorem Fd.alloc {w : World} {B : Nat} {A : At} {n : Nat} {vg vs : Value} {s : St} (h : Fd w B A n vg vs s) (o : Obj) : Fd (w.alloc o) B A n vg vs s :=
  h.kw (Kw.alloc w o fun _ => False) id id id id id fun _ _ => id
theorem Fd.drewN {w : World} {B : Nat} {A : At} {n : Nat} {vg vs : Value} {s : St} (h : Fd w B A n vg vs s) (m : Nat) : Fd (w.drewN m) B A n vg vs s :=
  h.kw (Kw.drewN w m fun _ => False) id id id id id fun _ _ => id
theorem Fd.fi {w : World} {B : Nat} {A : At} {n : Nat} {vg vs : Value} {s : St} (h : Fd w B A n vg vs s) : A.f ≠ A.i := h.box.ne h.ri (by decide)
theorem Fd.fl {w : World} {B : Nat} {A : At} {n : Nat} {vg vs : Value} {s : St} (h : Fd w B A n vg vs s) : A.f ≠ A.l := h.box.ne h.rl (by decide)
theorem Fd.fo {w : World} {B : Nat} {A : At} {n : Nat} {vg vs : Value} {s : St} (h : Fd w B A n vg vs s) : A.f ≠ A.o := h.box.ne h.ro (by decide)
theorem Fd.fg {w : World} {B : Nat} {A : At} {n : Nat} {vg vs : Value} {s : St} (h : Fd w B A n vg vs s) : A.f ≠ A.g := h.box.ne h.rg (by decide)
theorem Fd.oi {w : World} {B : Nat} {A : At} {n : Nat} {vg vs : Value} {s : St} (h : Fd w B A n vg vs s) : A.o ≠ A.i := h.ro.ne h.ri (by decide)
theorem Fd.ol {w : World} {B : Nat} {A : At} {n : Nat} {vg vs : Value} {s : St} (h : Fd w B A n vg vs s) : A.o ≠ A.l := h.ro.ne h.rl (by decide)
theorem Fd.og {w : World} {B : Nat} {A : At} {n : Nat} {vg vs : Value} {s : St} (h : Fd w B A n vg vs s) : A.o ≠ A.g := h.ro.ne h.rg (by decide)
theorem Fd.sf {w : World} {B : Nat} {A : At} {n : Nat} {vg vs : Value} {s : St} (h : Fd w B A n vg vs s) : vs.ownBlock ≠ some A.f := h.box.ne_own (by decide) h.stk
theorem Fd.so {w : World} {B : Nat} {A : At} {n : Nat} {vg vs : Value} {s : St} (h : Fd w B A n vg vs s) : vs.ownBlock ≠ some A.o := h.ro.ne_own (by decide) h.stk
/-- A cell of the finder is set. -/
theorem Fd.setF {w : World} {B : Nat} {A : At} {n : Nat} {vg vs : Value} {s s' : St} (h : Fd w B A n vg vs s) (j : Nat) (u : Value) (hj : (fdCells A n vg vs s).set j u = fdCells A n vg vs s') (he : s'.idx = s.idx ∧ s'.low = s.low ∧ s'.on = s.on ∧ s'.grp = s.grp ∧ s'.stack = s.stack) : Fd (w.setCell ⟨A.f, j, none⟩ u) B A n vg vs s' := by
  obtain ⟨e1, e2, e3, e4, e5⟩ := he
  have hb := h.box.set j u
  rw [hj] at hb
  exact ⟨hb, e1 ▸ h.ri.far h.fi.symm j u, e2 ▸ h.rl.far h.fl.symm j u, e3 ▸ h.ro.far h.fo.symm j u, e4 ▸ h.rg.far h.fg.symm j u, e5 ▸ (Kw.set w A.f j u).row h.stk (fun b hb e => h.sf (e ▸ hb)), e1 ▸ h.li, e2 ▸ h.ll, e3 ▸ h.lo, e4 ▸ h.lg, h.il, h.ig, h.lgn, h.si, h.sl, h.sg⟩
theorem Fd.setI {w : World} {B : Nat} {A : At} {n : Nat} {vg vs : Value} {s : St} (h : Fd w B A n vg vs s) (k x : Nat) : Fd (w.setCell ⟨A.i, k, none⟩ (.int .i64 (x : Int))) B A n vg vs { s with idx := s.idx.set k x } :=
  ⟨h.box.far h.fi k _, nn_set s.idx k x ▸ h.ri.set k _, h.rl.far h.il.symm k _, h.ro.far h.oi k _, h.rg.far h.ig.symm k _, (Kw.set w A.i k _).row h.stk (fun b hb e => h.si (e ▸ hb)), by simp [h.li], h.ll, h.lo, h.lg, h.il, h.ig, h.lgn, h.si, h.sl, h.sg⟩
theorem Fd.setL {w : World} {B : Nat} {A : At} {n : Nat} {vg vs : Value} {s : St} (h : Fd w B A n vg vs s) (k x : Nat) : Fd (w.setCell ⟨A.l, k, none⟩ (.int .i64 (x : Int))) B A n vg vs { s with low := s.low.set k x } :=
  ⟨h.box.far h.fl k _, h.ri.far h.il k _, nn_set s.low k x ▸ h.rl.set k _, h.ro.far h.ol k _, h.rg.far h.lgn.symm k _, (Kw.set w A.l k _).row h.stk (fun b hb e => h.sl (e ▸ hb)), h.li, by simp [h.ll], h.lo, h.lg, h.il, h.ig, h.lgn, h.si, h.sl, h.sg⟩
theorem Fd.setO {w : World} {B : Nat} {A : At} {n : Nat} {vg vs : Value} {s : St} (h : Fd w B A n vg vs s) (k : Nat) (x : Bool) : Fd (w.setCell ⟨A.o, k, none⟩ (.bool x)) B A n vg vs { s with on := s.on.set k x } :=
  ⟨h.box.far h.fo k _, h.ri.far h.oi.symm k _, h.rl.far h.ol.symm k _, by have := h.ro.set k (.bool x); rw [show (bls s.on).set k (.bool x) = bls (s.on.set k x) by simp [List.map_set]] at this; exact this, h.rg.far h.og.symm k _, (Kw.set w A.o k _).row h.stk (fun b hb e => h.so (e ▸ hb)), h.li, h.ll, by simp [h.lo], h.lg, h.il, h.ig, h.lgn, h.si, h.sl, h.sg⟩
theorem Fd.setG {w : World} {B : Nat} {A : At} {n : Nat} {vg vs : Value} {s : St} (h : Fd w B A n vg vs s) (k x : Nat) : Fd (w.setCell ⟨A.g, k, none⟩ (.int .i64 (x : Int))) B A n vg vs { s with grp := s.grp.set k x } :=
  ⟨h.box.far h.fg k _, h.ri.far h.ig k _, h.rl.far h.lgn k _, h.ro.far h.og k _, nn_set s.grp k x ▸ h.rg.set k _, (Kw.set w A.g k _).row h.stk (fun b hb e => h.sg (e ▸ hb)), h.li, h.ll, h.lo, by simp [h.lg], h.il, h.ig, h.lgn, h.si, h.sl, h.sg⟩
/-- Another stack. -/
theorem Fd.setS {w w' : World} {B : Nat} {A : At} {n : Nat} {vg vs vs' : Value} {s : St} {k : List Nat} (h : Fd w B A n vg vs s) (hk : Kw w w' fun j => vs.ownBlock = some j) (hn : Near w vs vs') (ho : w'.ownsRow B 3 1 vs' k.length (ints (nn k))) :
    Fd (w'.setCell ⟨A.f, 4, none⟩ vs') B A n vg vs' { s with stack := k } := by
  have hx : ∀ b, b < w.heap.size → vs.ownBlock ≠ some b → vs'.ownBlock ≠ some b := fun b hb hne e => by
    rcases hn with h1 | ⟨g, h1, hle⟩
    · exact hne (h1.symm.trans e)
    · rw [h1] at e; injection e with e; omega
  have hb := (h.box.kw hk h.sf).set 4 vs'
  exact ⟨hb, (h.ri.kw hk h.si).far h.fi.symm 4 _, (h.rl.kw hk h.sl).far h.fl.symm 4 _, (h.ro.kw hk h.so).far h.fo.symm 4 _, (h.rg.kw hk h.sg).far h.fg.symm 4 _,
    (Kw.set w' A.f 4 vs').row ho (fun b hb e => hx A.f h.box.lt h.sf (e ▸ hb)), h.li, h.ll, h.lo, h.lg, h.il, h.ig, h.lgn, hx _ h.ri.lt h.si, hx _ h.rl.lt h.sl, hx _ h.rg.lt h.sg⟩

theorem tyInts : SlTy Try.prog 23 3 1 8 := SlTy.mk' (z := .int .i64 0) Try.underlying23 (by kernel_rfl) rfl (by decide)
def stEnter (s : St) (k : Nat) : St := { s with idx := s.idx.set k (s.cnt + 1), low := s.low.set k (s.cnt + 1), on := s.on.set k true, stack := s.stack ++ [k], cnt := s.cnt + 1 }

set_option maxRecDepth 20000 in
set_option maxHeartbeats 4000000 in
/-- 'enter'. -/
theorem enter_any (B : Nat) (A : At) (n : Nat) (vg vs : Value) (s : St) (k : Nat) (w : World) (h : Fd w B A n vg vs s) (hk : k < n) (hc : s.cnt ≤ 1000000) (hs : s.stack.length ≤ 1000000) (hB : B ≤ w.heap.size) :
    Calls Try.prog 42 #[.pointer (some ⟨A.f, 0, none⟩), .int .i64 k] w fun e w' => e = .returned (.agg #[.int .i64 k, .int .i64 0]) ∧ ∃ vs', Fd w' B A n vg vs' (stEnter s k) ∧ Kw w w' (pF A vs) ∧ Near w vs vs' := by
  have H := Lib.hid h
  obtain ⟨a0, c0, rfl⟩ := own_shape h.stk
  clear h
  have H0 := Lib.hid (H.out.alloc (.cells #[.int .i64 0, .int .i64 0] 83))
  have hgz : (w.alloc (.cells #[.int .i64 0, .int .i64 0] 83)).heap[w.heap.size]? = some (.cells #[.int .i64 0, .int .i64 0] 83 (0, 0)) := heap_alloc_new w _
  have z5 := H0.out.box.cell (i := 5) rfl
  have y5 := H0.out.box.free 5
  obtain ⟨c1, hc1⟩ : ∃ c1, c1 = s.cnt + 1 := ⟨_, rfl⟩
  have ec : (s.cnt : Int) + 1 = (c1 : Int) := by omega
  have H1 := Lib.hid (H0.out.setF (s' := { s with cnt := c1 }) 5 (.int .i64 (c1 : Int)) rfl ⟨rfl, rfl, rfl, rfl, rfl⟩)
  have KZ := Lib.hid ((Kw.alloc w (.cells #[.int .i64 0, .int .i64 0] 83) (pF A (.slice a0 s.stack.length c0))).trans ((Kw.set _ A.f 5 (.int .i64 (c1 : Int))).mono fun j e => .inl e) fun _ _ h => h)
  have hne : w.heap.size ≠ A.f := fun e => by have := H.out.box.lt; omega
  have hgy := row_far hgz hne 5 (.int .i64 (c1 : Int))
  have HEN : Hid (stEnter s k = { s with idx := s.idx.set k c1, low := s.low.set k c1, on := s.on.set k true, stack := s.stack ++ [k], cnt := c1 }) := Lib.hid (by rw [hc1]; rfl)
  have hci : (c1 : Int) ≤ 1000001 := by omega
  clear hc1 hc
  go_enter Try.func42, Try.ntmps42
  go_wp2_with fail
  obtain ⟨w1, hw1⟩ : ∃ w1, w1 = (w.alloc (.cells #[.int .i64 0, .int .i64 0] 83)).setCell ⟨A.f, 5, none⟩ (.int .i64 (c1 : Int)) := ⟨_, rfl⟩
  rw [← hw1] at H1 KZ hgy ⊢
  clear hw1 z5 y5 H0 hgz ec
  have x1 := H1.out.box.cell (i := 1) rfl
  have x2 := H1.out.box.cell (i := 2) rfl
  have x3 := H1.out.box.cell (i := 3) rfl
  have x5 := H1.out.box.cell (i := 5) rfl
  have hki : (k : Int) < (n : Int) := by omega
  have i1 := H1.out.ri.cell (nn_at _ k (by rw [H1.out.li]; exact hk))
  have g1 := H1.out.ri.free k
  have H2 := Lib.hid (H1.out.setI k c1)
  have i2 := H2.out.rl.cell (nn_at _ k (by rw [H2.out.ll]; exact hk))
  have g2 := H2.out.rl.free k
  have H3 := Lib.hid (H2.out.setL k c1)
  have i3 := H3.out.ro.cell (i := k) (u := .bool (s.on[k]'(by rw [H3.out.lo]; exact hk))) (by simp)
  have g3 := H3.out.ro.free k
  have H4 := Lib.hid (H3.out.setO k true)
  go_region
  all_goals (
    have H5 := Lib.hid (H4.out.drewN 1)
    have KY := Lib.hid ((((KZ.out.trans ((Kw.set w1 A.i k (.int .i64 (c1 : Int))).mono fun j (e : j = A.i) => (.inr (.inl e) : pF A (.slice a0 s.stack.length c0) j)) fun _ _ h => h).trans ((Kw.set _ A.l k (.int .i64 (c1 : Int))).mono fun j (e : j = A.l) => (.inr (.inr (.inl e)) : pF A (.slice a0 s.stack.length c0) j)) fun _ _ h => h).trans ((Kw.set _ A.o k (.bool true)).mono fun j (e : j = A.o) => (.inr (.inr (.inr (.inl e))) : pF A (.slice a0 s.stack.length c0) j)) fun _ _ h => h).trans (Kw.drewN _ 1 _) fun _ _ h => h)
    have hni : w.heap.size ≠ A.i := fun e => by have := H.out.ri.lt; omega
    have hnl : w.heap.size ≠ A.l := fun e => by have := H.out.rl.lt; omega
    have hno : w.heap.size ≠ A.o := fun e => by have := H.out.ro.lt; omega
    have hgx := row_far (row_far (row_far hgy hni k (.int .i64 (c1 : Int))) hnl k (.int .i64 (c1 : Int))) hno k (.bool true)
    obtain ⟨w2, hw2⟩ : ∃ w2, w2 = (((w1.setCell ⟨A.i, k, none⟩ (.int .i64 (c1 : Int))).setCell ⟨A.l, k, none⟩ (.int .i64 (c1 : Int))).setCell ⟨A.o, k, none⟩ (.bool true)).drew := ⟨_, rfl⟩
    have hgx : w2.heap[w.heap.size]? = some (.cells #[.int .i64 0, .int .i64 0] 83 (0, 0)) := by rw [hw2]; exact hgx
    have H5 : Hid (Fd w2 B A n vg (.slice a0 s.stack.length c0) { s with idx := s.idx.set k c1, low := s.low.set k c1, on := s.on.set k true, cnt := c1 }) := by rw [hw2]; exact H5
    have KY : Hid (Kw w w2 (pF A (.slice a0 s.stack.length c0))) := by rw [hw2]; exact KY
    rw [← hw2]
    clear hw2 H1 H2 H3 H4 KZ hgy x1 x2 x3 x5 i1 i2 i3 g1 g2 g3
    have x4 := H5.out.box.cell (i := 4) rfl
    have hB2 : B ≤ w2.heap.size := Nat.le_trans hB KY.out.size
    have hrow : w2.ownsRow B 3 1 (.slice a0 s.stack.length c0) s.stack.length (ints (nn s.stack)) := H5.out.stk
    go_wp2_with (first
      | (at_builtin; refine wp_app2 tyInts rfl _ _ rfl B hrow rfl rfl rfl rfl (by intro u hu; simp at hu; rw [hu]; rfl) (by omega) (by omega) hB2 ?_; intro v3 w3 o3 b3 q3 n3; have k3 := Kw.of_grown q3; have H6 := Lib.hid (H5.out.setS (k := s.stack ++ [k]) k3 n3 (by rw [List.length_append, show nn (s.stack ++ [k]) = nn s.stack ++ [(k : Int)] by simp, ints_snoc]; exact o3)); have r4 := (H5.out.box.kw k3 H5.out.sf).cell (i := 4) rfl; have f4 := (H5.out.box.kw k3 H5.out.sf).free 4; have hgv : w3.heap[w.heap.size]? = some (.cells #[.int .i64 0, .int .i64 0] 83 (0, 0)) := (k3.block _ (row_lt hgx) (fun e => (show Ro w2 w.heap.size 83 [.int .i64 0, .int .i64 0] from hgx).ne_own (by decide) hrow e)).trans hgx; obtain ⟨a3, c3, rfl⟩ := own_shape o3; have hgu := row_far hgv hne 4 (.slice a3 (s.stack.length + 1) c3); have u0 := row_cell hgu 0; have u1 := row_cell hgu 1; have v0 := row_free hgu 0; have v1 := row_free hgu 1; simp at u0 u1)
      | fail)
    have hnear : Near w (.slice a0 s.stack.length c0) (.slice a3 (s.stack.length + 1) c3) := by
      rcases n3 with h | ⟨g, h, hle⟩
      · exact .inl h
      · exact .inr ⟨g, h, Nat.le_trans KY.out.size hle⟩
    have hso := (show Ro _ w.heap.size 83 [.int .i64 0, .int .i64 0] from hgu).ne_own (by decide) H6.out.stk
    have hng : w.heap.size ≠ A.g := fun e => by have := H.out.rg.lt; omega
    have H7 := (H6.out.kw (Kw.set _ w.heap.size 0 (.int .i64 k)) hne.symm hni.symm hnl.symm hno.symm hng.symm fun b hb e => hso (e ▸ hb)).kw (Kw.set _ w.heap.size 1 (.int .i64 0)) hne.symm hni.symm hnl.symm hno.symm hng.symm fun b hb e => hso (e ▸ hb)
    have hK := (((KY.out.trans (k3.mono fun j (e : (Value.slice a0 s.stack.length c0).ownBlock = some j) => (.inr (.inr (.inr (.inr (.inr e)))) : pF A (.slice a0 s.stack.length c0) j)) fun _ _ h => h).trans ((Kw.set w3 A.f 4 (.slice a3 (s.stack.length + 1) c3)).mono fun j (e : j = A.f) => (.inl e : pF A (.slice a0 s.stack.length c0) j)) fun _ _ h => h).trans (Kw.set _ w.heap.size 0 (.int .i64 k)) fun j hj e => absurd hj (by omega)).trans (Kw.set _ w.heap.size 1 (.int .i64 0)) fun j hj e => absurd hj (by omega)
    have hrow2 := row_set (row_set hgu 0 (.int .i64 k)) 1 (.int .i64 0)
    have r0 := row_cell hrow2 0
    have r1 := row_cell hrow2 1
    simp at r0 r1
    exact bodyPost_ret (v := .agg #[.int .i64 k, .int .i64 0]) (by simp [results, Try.results42, go_sem, r0, r1]) rfl ⟨rfl, _, HEN.out ▸ H7, hK, hnear⟩
    )

/-- What is popped. -/
structure Pp (s s' : St) (pop : List Nat) : Prop where
  idx : s'.idx = s.idx
  low : s'.low = s.low
  cnt : s'.cnt = s.cnt
  many : s'.many = s.many
  on : ∀ x, s'.on.getD x false = if x ∈ pop then false else s.on.getD x false
  grp : ∀ x, s'.grp.getD x 0 = if x ∈ pop then s.many else s.grp.getD x 0
theorem getD_set9 {α : Type} (l : List α) (i : Nat) (a d : α) (hi : i < l.length) (x : Nat) : (l.set i a).getD x d = if x = i then a else l.getD x d := by
  simp only [List.getD_eq_getElem?_getD, List.getElem?_set]
  by_cases h : x = i
  · subst h; simp [hi]
  · simp [h, Ne.symm h]
theorem Pp.refl (s : St) : Pp s s [] := ⟨rfl, rfl, rfl, rfl, fun x => by simp, fun x => by simp⟩
theorem Pp.step {s s' : St} {pop st : List Nat} {x : Nat} (h : Pp s s' pop) (ho : x < s'.on.length) (hg : x < s'.grp.length) : Pp s { s' with stack := st, on := s'.on.set x false, grp := s'.grp.set x s'.many } (x :: pop) := by
  refine ⟨h.idx, h.low, h.cnt, h.many, fun y => ?_, fun y => ?_⟩
  · show (s'.on.set x false).getD y false = _
    rw [getD_set9 _ _ _ _ ho, h.on y]
    by_cases e : y = x
    · simp [e]
    · simp [e]
  · show (s'.grp.set x s'.many).getD y 0 = _
    rw [getD_set9 _ _ _ _ hg, h.grp y, h.many]
    by_cases e : y = x
    · simp [e]
    · simp [e]

set_option maxRecDepth 20000 in
set_option maxHeartbeats 4000000 in
/-- 'leave', where no group ends. -/
theorem leave_no (B : Nat) (A : At) (n : Nat) (vg vs : Value) (s : St) (k : Nat) (w : World) (h : Fd w B A n vg vs s) (hk : k < n) (hne : s.low.getD k 0 ≠ s.idx.getD k 0) :
    Calls Try.prog 43 #[.pointer (some ⟨A.f, 0, none⟩), .int .i64 k] w fun e w' => e = .returned (.tuple #[]) ∧ ∃ m, w' = w.drewN m := by
  have x1 := h.box.cell (i := 1) rfl
  have x2 := h.box.cell (i := 2) rfl
  have i1 := h.ri.cell (nn_at _ k (by rw [h.li]; exact hk))
  have i2 := h.rl.cell (nn_at _ k (by rw [h.ll]; exact hk))
  have e1 : s.low.getD k 0 = s.low[k]'(by rw [h.ll]; exact hk) := by simp [h.ll, hk]
  have e2 : s.idx.getD k 0 = s.idx[k]'(by rw [h.li]; exact hk) := by simp [h.li, hk]
  rw [e1, e2] at hne
  obtain ⟨p, hp⟩ : ∃ p, p = s.low[k]'(by rw [h.ll]; exact hk) := ⟨_, rfl⟩
  obtain ⟨q, hq⟩ : ∃ q, q = s.idx[k]'(by rw [h.li]; exact hk) := ⟨_, rfl⟩
  rw [← hp] at hne i2
  rw [← hq] at hne i1
  have hki : (k : Int) < (n : Int) := by omega
  have hb : ((p : Int) != (q : Int)) = true := by simp; omega
  clear e1 e2 hp hq hne
  go_enter Try.func43, Try.ntmps43
  go_wp2_with fail
  go_quiet (fail)
  go_wp2_with fail
  exact bodyPost_ret (results_none rfl _ _ _) rfl ⟨rfl, _, rfl⟩

/-- How many are on the stack. -/
def stkLen (w : World) (f : Nat) : Nat := match w.cell? ⟨f, 4, none⟩ with | some (.slice _ n _) => n | _ => 0

set_option maxRecDepth 20000 in
set_option maxHeartbeats 4000000 in
/-- 'leave', where a group ends. -/
theorem leave_pop (B : Nat) (A : At) (n : Nat) (vg vs : Value) (s : St) (k : Nat) (a b : List Nat) (w : World) (h : Fd w B A n vg vs s) (hk : k < n) (he : s.low.getD k 0 = s.idx.getD k 0) (hs : s.stack = a ++ k :: b) (hb : k ∉ b) (hlt : ∀ x ∈ s.stack, x < n) (hl : s.stack.length ≤ 1000000) (hm : s.many ≤ 1000000) :
    Calls Try.prog 43 #[.pointer (some ⟨A.f, 0, none⟩), .int .i64 k] w fun e w' => e = .returned (.tuple #[]) ∧ ∃ vs' s', Fd w' B A n vg vs' { s' with stack := a, many := s.many + 1 } ∧ Pp s s' (k :: b) ∧ Kw w w' (pF A vs) ∧ vs'.ownBlock = vs.ownBlock := by
  have x1 := h.box.cell (i := 1) rfl
  have x2 := h.box.cell (i := 2) rfl
  have i1 := h.ri.cell (nn_at _ k (by rw [h.li]; exact hk))
  have i2 := h.rl.cell (nn_at _ k (by rw [h.ll]; exact hk))
  have e1 : s.low.getD k 0 = s.low[k]'(by rw [h.ll]; exact hk) := by simp [h.ll, hk]
  have e2 : s.idx.getD k 0 = s.idx[k]'(by rw [h.li]; exact hk) := by simp [h.li, hk]
  rw [e1, e2] at he
  rw [he] at i2
  obtain ⟨q, hq⟩ : ∃ q, q = s.idx[k]'(by rw [h.li]; exact hk) := ⟨_, rfl⟩
  rw [← hq] at i1 i2
  have hki : (k : Int) < (n : Int) := by omega
  have hbb : ((q : Int) != (q : Int)) = false := by simp
  have H := Lib.hid h
  have HS := Lib.hid hs
  have HLT := Lib.hid hlt
  have HNB := Lib.hid hb
  clear e1 e2 hq he h hs hlt hb
  go_enter Try.func43, Try.ntmps43
  go_wp2_with fail
  go_quiet (fail)
  go_wp2_with fail
  obtain ⟨w1, hw1⟩ : ∃ w1, w1 = w.drewN nq := ⟨_, rfl⟩
  have H1 : Hid (Fd w1 B A n vg vs s) := Lib.hid (hw1 ▸ H.out.drewN nq)
  have K1 : Kw w w1 (pF A vs) := hw1 ▸ Kw.drewN w nq _
  rw [← hw1]
  clear hw1 x1 x2 i1 i2
  go_loopw [4] (fun _ wr => ∃ (vr : Value) (sr : St) (b1 b2 : List Nat), Hid (b = b1 ++ b2) ∧ Hid (sr.stack = a ++ k :: b1) ∧ Hid (Fd wr B A n vg vr sr) ∧ Hid (Pp s sr b2) ∧ vr.ownBlock = vs.ownBlock ∧ Kw w wr (pF A vs)) (fun _ wr => stkLen wr A.f)
  case atStart => exact ⟨vs, s, b, [], Lib.hid (by simp), HS, H1, Lib.hid (Pp.refl s), rfl, K1⟩
  case round =>
    obtain ⟨vr, sr, b1, b2, HB, HST, HF, HP9, hvr, hkw⟩ := hrel
    have hcons : ∃ st x, sr.stack = st ++ [x] ∧ x < n ∧ ((x = k ∧ st = a ∧ b1 = []) ∨ (x ≠ k ∧ ∃ b3, b1 = b3 ++ [x] ∧ st = a ++ k :: b3)) := by
      have hsub : ∀ y ∈ sr.stack, y ∈ s.stack := fun y hy => by
        rw [HST.out] at hy; rw [HS.out, HB.out]
        simp only [List.mem_append, List.mem_cons] at hy ⊢
        rcases hy with h | h | h
        · exact .inl h
        · exact .inr (.inl h)
        · exact .inr (.inr (.inl h))
      rcases List.eq_nil_or_concat b1 with h0 | ⟨b3, x, h0⟩
      · exact ⟨a, k, by rw [HST.out, h0], hk, .inl ⟨rfl, rfl, h0⟩⟩
      · rw [List.concat_eq_append] at h0
        refine ⟨a ++ k :: b3, x, by rw [HST.out, h0]; simp, HLT.out x (hsub x (by rw [HST.out, h0]; simp)), .inr ⟨fun e => HNB.out (by rw [HB.out, h0, ← e]; simp), b3, h0, rfl⟩⟩
    obtain ⟨st, x, hst, hxn, hcase⟩ := hcons
    have hstl : st.length + 1 ≤ 1000000 := by
      have := congrArg List.length hst
      have h2 := congrArg List.length HST.out
      have h3 := congrArg List.length HS.out
      rw [HB.out] at h3
      simp at this h2 h3; omega
    have ho := HF.out.stk
    have hlen : sr.stack.length = st.length + 1 := by rw [hst]; simp
    rw [hst] at ho
    obtain ⟨g, cap, cur, rfl, hBg, hg, hnc, hcm, hcs, ht⟩ := ho.2.resolve_left (fun h0 => by simp at h0)
    have z1 := own_at ho (nn_at (st ++ [x]) st.length (by simp))
    simp at z1
    have c4 := HF.out.box.cell (i := 4) rfl
    have f4 := HF.out.box.free 4
    have hp := own_prefix ho (i := st.length) (by simp)
    rw [show (ints (nn (st ++ [x]))).take (st.length * 1) = ints (nn st) by rw [show nn (st ++ [x]) = nn st ++ [(x : Int)] by simp, ints_append, Nat.mul_one, ← nn_len st, List.take_left]] at hp
    rw [List.length_append, List.length_singleton] at c4 hnc
    have HP := Lib.hid hp
    have HFF := Lib.hid (fun m => HF.out.drewN m)
    have c4m := fun m => (HFF.out m).box.cell (i := 4) rfl
    have hle1 : (st.length : Int) ≤ (cap : Int) := by omega
    have HLR : Hid (stkLen wr A.f = st.length + 1) := Lib.hid (by unfold stkLen; rw [c4])
    have HPR := HP9
    clear ho hp hg hcs ht hcm hst
    go_wp2_with fail
    go_quiet (fail)
    obtain ⟨w2, hw2⟩ : ∃ w2, w2 = wr.drewN nq := ⟨_, rfl⟩
    have HF2 : Hid (Fd w2 B A n vg (.slice (some ⟨g, 0, none⟩) (st.length + 1) cap) sr) := Lib.hid (by have := HF.out.drewN nq; rw [List.length_append, List.length_singleton] at this; rw [hw2]; exact this)
    have HP2 : Hid (w2.ownsRow B 3 1 (.slice (some ⟨g, 0, none⟩) st.length cap) st.length (ints (nn st))) := Lib.hid (by rw [hw2]; exact HP.out)
    have K2 : Kw w w2 (pF A vs) := by rw [hw2]; exact hkw.trans (Kw.drewN wr nq _) fun _ _ h => h
    rw [← hw2]
    clear hw2 HF HP HFF c4m c4 f4 z1 hkw
    have c4 := HF2.out.box.cell (i := 4) rfl
    have f4 := HF2.out.box.free 4
    go_wp2_with fail
    go_region
    all_goals (
      have HF3 := Lib.hid ((HF2.out.setS (vs' := .slice (some ⟨g, 0, none⟩) st.length cap) (k := st) (Kw.refl w2 _) (.inl rfl) HP2.out).drewN 1)
      have K3 := (K2.trans ((Kw.set w2 A.f 4 (.slice (some ⟨g, 0, none⟩) st.length cap)).mono fun j (e : j = A.f) => (.inl e : pF A vs j)) fun _ _ h => h).trans (Kw.drewN _ 1 (pF A vs)) fun _ _ h => h
      obtain ⟨w3, hw3⟩ : ∃ w3, w3 = (w2.setCell ⟨A.f, 4, none⟩ (.slice (some ⟨g, 0, none⟩) st.length cap)).drew := ⟨_, rfl⟩
      have HF3 : Hid (Fd w3 B A n vg (.slice (some ⟨g, 0, none⟩) st.length cap) { sr with stack := st }) := by rw [hw3]; exact HF3
      have K3 : Kw w w3 (pF A vs) := by rw [hw3]; exact K3
      rw [← hw3]
      clear hw3 HF2 HP2 K2 c4 f4
      have x3 := HF3.out.box.cell (i := 3) rfl
      have x6 := HF3.out.box.cell (i := 6) rfl
      have x7 := HF3.out.box.cell (i := 7) rfl
      have hxi : (x : Int) < (n : Int) := by omega
      have i3 := HF3.out.ro.cell (i := x) (u := .bool (sr.on[x]'(by have := HF3.out.lo; simp at this; omega))) (by simp)
      have g3 := HF3.out.ro.free x
      have HF4 := Lib.hid (HF3.out.setO x false)
      have i4 := HF4.out.rg.cell (nn_at _ x (by rw [HF4.out.lg]; exact hxn))
      have g4 := HF4.out.rg.free x
      go_wp2_with fail
      go_region
      all_goals (
        have HF5 := Lib.hid ((HF4.out.setG x sr.many).drewN 1)
        have K4 := ((K3.trans ((Kw.set w3 A.o x (.bool false)).mono fun j (e : j = A.o) => (.inr (.inr (.inr (.inl e))) : pF A vs j)) fun _ _ h => h).trans ((Kw.set _ A.g x (.int .i64 sr.many)).mono fun j (e : j = A.g) => (.inr (.inr (.inr (.inr (.inl e)))) : pF A vs j)) fun _ _ h => h).trans (Kw.drewN _ 1 (pF A vs)) fun _ _ h => h
        have HPP := Lib.hid (HPR.out.step (st := st) (x := x) (by have := HF3.out.lo; have e : sr.on.length = n := this; omega) (by have := HF3.out.lg; have e : sr.grp.length = n := this; omega))
        obtain ⟨w4, hw4⟩ : ∃ w4, w4 = ((w3.setCell ⟨A.o, x, none⟩ (.bool false)).setCell ⟨A.g, x, none⟩ (.int .i64 sr.many)).drew := ⟨_, rfl⟩
        have HF5 : Hid (Fd w4 B A n vg (.slice (some ⟨g, 0, none⟩) st.length cap) { sr with stack := st, on := sr.on.set x false, grp := sr.grp.set x sr.many }) := by rw [hw4]; exact HF5
        have K4 : Kw w w4 (pF A vs) := by rw [hw4]; exact K4
        rw [← hw4]
        clear hw4 HF4 HF3 K3 x3 x6 x7 i3 g3 i4 g4
        have x7 := HF5.out.box.cell (i := 7) rfl
        have f7 := HF5.out.box.free 7
        have hmany : (sr.many : Int) ≤ 1000000 := by have := HPR.out.many; omega
        have HL4 : Hid (stkLen w4 A.f = st.length) := Lib.hid (by unfold stkLen; rw [HF5.out.box.cell (i := 4) rfl])
        rcases hcase with ⟨rfl, rfl, rfl⟩ | ⟨hxk, b3, rfl, rfl⟩
        · go_wp2_with fail
          have HF6 := HF5.out.setF (s' := { sr with stack := st, on := sr.on.set x false, grp := sr.grp.set x sr.many, many := s.many + 1 }) 7 (.int .i64 ((sr.many : Int) + 1)) (by rw [HPR.out.many]; rfl) ⟨rfl, rfl, rfl, rfl, rfl⟩
          refine bodyPost_ret (results_none rfl _ _ _) rfl ⟨rfl, .slice (some ⟨g, 0, none⟩) st.length cap, { sr with stack := st, on := sr.on.set x false, grp := sr.grp.set x sr.many }, HF6, ?_, K4.trans ((Kw.set w4 A.f 7 _).mono fun j (e : j = A.f) => (.inl e : pF A vs j)) fun _ _ h => h, hvr⟩
          have hbb2 : b = b2 := by have := HB.out; simpa using this
          rw [hbb2]
          exact ⟨HPP.out.idx, HPP.out.low, HPP.out.cnt, HPP.out.many, HPP.out.on, HPP.out.grp⟩
        · have hxe : ((x : Int) == (k : Int)) = false := by simp; omega
          go_wp2_with fail
          go_roundw
          case rel => exact ⟨_, _, b3, x :: b2, Lib.hid (by rw [HB.out]; simp), Lib.hid rfl, HF5, HPP, hvr, K4⟩
          case measure => rw [HL4.out, HLR.out]; omega
        )
      )
end Go.Proofs.Ytemdhbeegheefaa
