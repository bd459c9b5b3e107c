
/- The library's heap over 'ready', walked: Push, Pop. No condition. -/
import Derived.Test.YtemdhbeegheefaaGrMem
import Derived.Test.YtemdhbeegheefaaGrHpP
import Derived.Test.YtemdhbeegheefaaProg
import Derived.BigQuiet
import Derived.Deep.QuietTactic
namespace Go.Proofs.Ytemdhbeegheefaa
open Go.RowKit Gr

/-- Nothing turns but what p tells, and what is new. -/
structure Kw (w w' : World) (p : Nat → Prop) : Prop where
  os : w'.os = w.os
  tape : w'.tape = w.tape
  output : w'.output = w.output
  size : w.heap.size ≤ w'.heap.size
  block : ∀ k, k < w.heap.size → ¬ p k → w'.heap[k]? = w.heap[k]?
theorem Kw.refl (w : World) (p : Nat → Prop) : Kw w w p := ⟨rfl, rfl, rfl, Nat.le_refl _, fun _ _ _ => rfl⟩
theorem Kw.trans {a b c : World} {p q : Nat → Prop} (h : Kw a b p) (k : Kw b c q) (hq : ∀ j, j < a.heap.size → q j → p j) : Kw a c p :=
  ⟨k.os.trans h.os, k.tape.trans h.tape, k.output.trans h.output, Nat.le_trans h.size k.size, fun j hj hp => (k.block j (Nat.lt_of_lt_of_le hj h.size) fun hqj => hp (hq j hj hqj)).trans (h.block j hj hp)⟩
theorem Kw.mono {a b : World} {p q : Nat → Prop} (h : Kw a b p) (hq : ∀ j, p j → q j) : Kw a b q := ⟨h.os, h.tape, h.output, h.size, fun j hj hn => h.block j hj fun hp => hn (hq j hp)⟩
theorem Kw.of_grown {w w' : World} {row : Option Nat} (h : w.grownBy w' row) : Kw w w' fun j => row = some j := ⟨h.os, h.tape, h.output, h.size, fun j hj hn => h.block j hj fun e => hn e.symm⟩
theorem Kw.of_below {w w' : World} {B : Nat} (h : Below B w w') : Kw w w' fun j => B ≤ j := ⟨h.os, h.tape, h.output, h.size, fun j _ hn => h.block j (Nat.lt_of_not_le hn)⟩
theorem Kw.below {w w' : World} {B : Nat} {p : Nat → Prop} (h : Kw w w' p) (hp : ∀ j, p j → B ≤ j) (hB : B ≤ w.heap.size) : Below B w w' :=
  ⟨h.os, h.tape, h.output, h.size, fun j hj => h.block j (Nat.lt_of_lt_of_le hj hB) fun hpj => absurd (hp j hpj) (by omega)⟩
theorem Kw.drewN (w : World) (m : Nat) (p : Nat → Prop) : Kw w (w.drewN m) p := ⟨rfl, rfl, rfl, Nat.le_refl _, fun _ _ _ => rfl⟩
theorem Kw.alloc (w : World) (o : Obj) (p : Nat → Prop) : Kw w (w.alloc o) p := ⟨rfl, rfl, rfl, by simp, fun j hj _ => Below.heap_alloc w o j hj⟩
theorem Kw.set (w : World) (b o : Nat) (v : Value) : Kw w (w.setCell ⟨b, o, none⟩ v) fun j => j = b :=
  ⟨rfl, rfl, rfl, (by simp [World.setCell]), fun k _ hk => Below.heap_setCell _ _ _ k fun e => hk e⟩
theorem Kw.row {w w' : World} {p : Nat → Prop} {B e k n : Nat} {v : Value} {xs : List Value} (h : w.ownsRow B e k v n xs) (hk : Kw w w' p) (hp : ∀ g, v.ownBlock = some g → ¬ p g) : w'.ownsRow B e k v n xs := by
  rcases h.2 with ⟨hv, h0⟩ | ⟨g, cap, cur, rfl, hBg, hg, hnc, hcm, hcs, ht⟩
  · exact ⟨h.1, .inl ⟨hv, h0⟩⟩
  · exact ⟨h.1, .inr ⟨g, cap, cur, rfl, hBg, (hk.block g (row_lt hg) (hp g rfl)).trans hg, hnc, hcm, hcs, ht⟩⟩
theorem Kw.rd {w w' : World} {p : Nat → Prop} {k n : Nat} {v : Value} {cs : List Value} (h : Rd w k v n cs) (hk : Kw w w' p) (hp : ∀ g, v.ownBlock = some g → ¬ p g) : Rd w' k v n cs :=
  h.same hk.size fun b hb hlt => hk.block b hlt (hp b hb)

def Bx (w : World) (b : Nat) (t : TypeId) (v : Value) : Prop := w.heap[b]? = some (.cells #[v] t (0, 0))
theorem Bx.lt {w : World} {b : Nat} {t : TypeId} {v : Value} (h : Bx w b t v) : b < w.heap.size := row_lt h
theorem Bx.cell {w : World} {b : Nat} {t : TypeId} {v : Value} (h : Bx w b t v) : w.cell? ⟨b, 0, none⟩ = some v := (row_cell h 0).trans rfl
theorem Bx.free {w : World} {b : Nat} {t : TypeId} {v : Value} (h : Bx w b t v) : w.frozen? ⟨b, 0, none⟩ = false := row_free h 0
theorem Bx.set {w : World} {b : Nat} {t : TypeId} {v : Value} (h : Bx w b t v) (v' : Value) : Bx (w.setCell ⟨b, 0, none⟩ v') b t v' := row_set h 0 v'
theorem Bx.ne_row {w : World} {b : Nat} {t e : TypeId} {u : Value} (h : Bx w b t u) (hte : t ≠ e) {B k n : Nat} {v : Value} {xs : List Value} (hr : w.ownsRow B e k v n xs) : ∀ g, v.ownBlock = some g → g ≠ b := by
  intro g hg e'
  subst e'
  rcases hr.2 with ⟨rfl, _⟩ | ⟨g', cap, cur, rfl, _, hgb, _⟩
  · simp [Value.ownBlock] at hg
  · obtain rfl : g' = g := by simpa [Value.ownBlock] using hg
    have := (show w.heap[g']? = _ from h).symm.trans hgb
    simp at this
    exact hte this.2

/-! ### methods of 'ready' -/
theorem loadRdy (b : Nat) (w : World) (v : Value) (h : w.cell? ⟨b, 0, none⟩ = some v) : (loadVar 53 ⟨b, 0, none⟩).run Try.prog w = .ok v w := by
  simp [loadVar, isAgg, run_underlying Try.underlying53, h, Result.andThen]
theorem wrapNil (P : Program) (w : World) (xt : TypeId) (a : Addr) (n : String) : (Builtin.ssaWrapNilChk_ #[xt] xt #[.pointer (some a), strVal "", strVal n]).run P w = .ok (.pointer (some a)) w := rfl
theorem method_val {P : Program} {pt t f n : Nat} {name : String} {a : Addr} {w : World} {v : Value} (hu : P.underlying pt = some (.pointer t)) (hm : (P.info? pt).map (fun i => (i.methods.find? (·.name == name)).map fun m => (m.path, m.func)) = some (some (#[], some (f, false))))
    (hl : (loadVar t a).run P w = .ok v w) : (method (n + 1) pt (.pointer (some a)) name).run P w = .ok (f, v) w := by
  cases hi : P.info? pt with
  | none => rw [hi] at hm; cases hm
  | some i =>
    rw [hi] at hm
    simp only [Option.map_some, Option.some.injEq] at hm
    cases hq : i.methods.find? (·.name == name) with
    | none => rw [hq] at hm; cases hm
    | some m =>
      rw [hq] at hm
      simp only [Option.map_some, Option.some.injEq, Prod.mk.injEq] at hm
      obtain ⟨h1, h2⟩ := hm
      simp [method, typeInfo, hi, hq, h1, h2, follow, receiverAt, run_underlying hu, Place.get, wrapNil, asAddr, hl, Result.andThen]
theorem mLess (b : Nat) (w : World) (v : Value) (h : w.cell? ⟨b, 0, none⟩ = some v) : (method 239 55 (.pointer (some ⟨b, 0, none⟩)) "Less").run Try.prog w = .ok (87, v) w := method_val Try.underlying55 (by kernel_rfl) (loadRdy b w v h)
theorem mSwap (b : Nat) (w : World) (v : Value) (h : w.cell? ⟨b, 0, none⟩ = some v) : (method 239 55 (.pointer (some ⟨b, 0, none⟩)) "Swap").run Try.prog w = .ok (88, v) w := method_val Try.underlying55 (by kernel_rfl) (loadRdy b w v h)
theorem mLen (b : Nat) (w : World) (v : Value) (h : w.cell? ⟨b, 0, none⟩ = some v) : (method 239 55 (.pointer (some ⟨b, 0, none⟩)) "Len").run Try.prog w = .ok (86, v) w := method_val Try.underlying55 (by kernel_rfl) (loadRdy b w v h)
theorem mPush (b : Nat) (w : World) : (method 239 55 (.pointer (some ⟨b, 0, none⟩)) "Push").run Try.prog w = .ok (90, .pointer (some ⟨b, 0, none⟩)) w := by kernel_rfl
theorem mPop (b : Nat) (w : World) : (method 239 55 (.pointer (some ⟨b, 0, none⟩)) "Pop").run Try.prog w = .ok (89, .pointer (some ⟨b, 0, none⟩)) w := by kernel_rfl

/-- The box of a heap: its numbers. -/
structure Hp (w : World) (B b : Nat) (v : Value) (l : List Int) : Prop where
  box : Bx w b 53 v
  row : w.ownsRow B 3 1 v l.length (ints l)
theorem Hp.drewN {w : World} {B b : Nat} {v : Value} {l : List Int} (h : Hp w B b v l) (m : Nat) : Hp (w.drewN m) B b v l := ⟨h.box, h.row⟩
/-- Nothing turns but the heap. -/
abbrev pH (b : Nat) (v : Value) : Nat → Prop := fun j => j = b ∨ v.ownBlock = some j
theorem Hp.ne {w : World} {B b : Nat} {v : Value} {l : List Int} (h : Hp w B b v l) : ∀ g, v.ownBlock = some g → g ≠ b := h.box.ne_row (by decide) h.row

set_option maxHeartbeats 1600000 in
theorem less_any (B : Nat) (v : Value) (l : List Int) (i j : Nat) (w : World) (h : w.ownsRow B 3 1 v l.length (ints l)) (hi : i < l.length) (hj : j < l.length) :
    Calls Try.prog 87 #[v, .int .i64 i, .int .i64 j] w fun e w' => e = .returned (.bool (decide (l.getD i 0 < l.getD j 0))) ∧ ∃ m, w' = w.drewN m := by
  obtain ⟨a, c, rfl⟩ := own_shape h
  obtain ⟨b1, o1, rfl, c1⟩ := (ri_own h).at hi
  obtain ⟨b2, o2, e2, c2⟩ := (ri_own h).at hj
  cases e2
  have g1 : l.getD i 0 = l[i] := by simp [hi]
  have g2 : l.getD j 0 = l[j] := by simp [hj]
  rw [g1, g2]
  go_enter Try.func87, Try.ntmps87
  go_wp2_with fail
  go_quiet (fail)
  go_wp2_with fail
  go_ret
  exact ⟨rfl, ⟨_, rfl⟩⟩

theorem ints_swap (l : List Int) (i j : Nat) (hi : i < l.length) (hj : j < l.length) : ((ints l).set i (.int .i64 l[j])).set j (.int .i64 l[i]) = ints (swap l i j) := by
  rw [ints_set, ints_set]
  unfold swap
  simp [hi, hj]

set_option maxHeartbeats 1600000 in
theorem swap_any (B : Nat) (v : Value) (l : List Int) (i j : Nat) (w : World) (h : w.ownsRow B 3 1 v l.length (ints l)) (hi : i < l.length) (hj : j < l.length) :
    Calls Try.prog 88 #[v, .int .i64 i, .int .i64 j] w fun e w' => e = .returned (.tuple #[]) ∧ w'.ownsRow B 3 1 v l.length (ints (swap l i j)) ∧ Kw w w' fun k => v.ownBlock = some k := by
  have hsw := ints_swap l i j hi hj
  obtain ⟨g, cap, cur, rfl, hBg, hg, hnc, hcm, hcs, ht⟩ := h.2.resolve_left (fun h0 => by omega)
  have z1 := own_at h (ints_at l i hi)
  have z2 := own_at h (ints_at l j hj)
  have f1 := own_free h i
  have f2 := own_free h j
  have h2 := own_setk h i (.int .i64 l[j])
  have z3 := own_at h2 (List.getElem?_eq_getElem (i := j) (by rw [List.length_set, ints_length]; exact hj))
  have h3 := own_setk h2 j (.int .i64 l[i])
  rw [hsw] at h3
  go_enter Try.func88, Try.ntmps88
  go_wp2_with fail
  go_region
  all_goals (
    go_wp2_with fail
    go_end0
    exact ⟨rfl, h3, (((Kw.set w g i _).trans (Kw.set _ g j _) (fun _ _ e => e)).trans (Kw.drewN _ 1 _) (fun _ _ e => e)).mono fun k e => by rw [e]; rfl⟩
    )

theorem tyRdy : SlTy Try.prog 53 3 1 8 := SlTy.mk' (z := .int .i64 0) Try.underlying53 (by kernel_rfl) rfl (by decide)

set_option maxRecDepth 20000 in
set_option maxHeartbeats 1600000 in
theorem rpush_any (B b : Nat) (v : Value) (l : List Int) (x : Int) (w : World) (h : Hp w B b v l) (hl : l.length ≤ 1000000) (hB : B ≤ w.heap.size) :
    Calls Try.prog 90 #[.pointer (some ⟨b, 0, none⟩), .iface 3 (.int .i64 x)] w fun e w' => e = .returned (.tuple #[]) ∧ ∃ v', Hp w' B b v' (l ++ [x]) ∧ Kw w w' (pH b v) ∧ Near w v v' := by
  obtain ⟨hbx, hrow⟩ := h
  have c0 := hbx.cell
  have f0 := hbx.free
  have hne := hbx.ne_row (by decide) hrow
  obtain ⟨a, c, rfl⟩ := own_shape hrow
  have hta : ∀ (z : Int) (w : World), (Instr.typeAssert (.iface 3 (.int .i64 z)) 20 3 true).run Try.prog w = .ok (.tuple #[.int .i64 z, .bool true]) w := fun z w => by simp [Instr.typeAssert, run_underlying Try.underlying3]
  go_enter Try.func90, Try.ntmps90
  go_wp2_with (first
    | (at_builtin; refine wp_app2 tyRdy rfl _ _ rfl B hrow rfl rfl rfl rfl (by intro u hu; simp at hu; rw [hu]; rfl) (by omega) (by omega) hB ?_; intro v2 w2 o2 b2 g2 n2; have k2 := Kw.of_grown g2; have q1 : Bx w2 b 53 (.slice a l.length c) := (k2.block b hbx.lt fun e => hne b e rfl).trans hbx; have c1 := q1.cell; have f1 := q1.free; obtain ⟨a2, c2, rfl⟩ := own_shape o2)
    | fail)
  go_end0
  have hne2 := q1.ne_row (by decide) o2
  refine ⟨rfl, _, ⟨q1.set _, (Kw.set w2 b 0 _).row (by rw [List.length_append, ints_append]; exact o2) hne2⟩, ((k2.mono fun j e => .inr e).trans (Kw.set w2 b 0 _) fun j _ e => .inl e), n2⟩

set_option maxHeartbeats 1600000 in
theorem rpop_any (B b : Nat) (v : Value) (l : List Int) (x : Int) (w : World) (h : Hp w B b v (l ++ [x])) (hl : l.length ≤ 1000000) :
    Calls Try.prog 89 #[.pointer (some ⟨b, 0, none⟩)] w fun e w' => e = .returned (.iface 3 (.int .i64 x)) ∧ ∃ v', Hp w' B b v' l ∧ Kw w w' (pH b v) ∧ v'.ownBlock = v.ownBlock := by
  obtain ⟨hbx, hrow⟩ := h
  have c0 := hbx.cell
  have f0 := hbx.free
  have hne := hbx.ne_row (by decide) hrow
  obtain ⟨g, cap, cur, rfl, hBg, hg, hnc, hcm, hcs, ht⟩ := hrow.2.resolve_left (fun h0 => by simp at h0)
  have z1 := own_at hrow (ints_at (l ++ [x]) l.length (by simp))
  simp at z1
  have hlen : ((l ++ [x]).length : Int) - 1 = (l.length : Int) := by simp
  rw [List.length_append, List.length_singleton] at *
  go_enter Try.func89, Try.ntmps89
  go_wp2_with fail
  go_ret
  have hp := own_prefix hrow (i := l.length) (by omega)
  rw [show (ints (l ++ [x])).take (l.length * 1) = ints l by rw [ints_append, Nat.mul_one, ← ints_length l, List.take_left]] at hp
  refine ⟨rfl, .slice (some ⟨g, 0, none⟩) l.length cap, ⟨hbx.set _, (Kw.set w b 0 _).row hp hne⟩, (Kw.set w b 0 _).mono fun j e => .inl e, rfl⟩

set_option maxRecDepth 20000 in
set_option maxHeartbeats 1600000 in
theorem up_any (B b : Nat) (v : Value) (l : List Int) (j : Nat) (w : World) (h : Hp w B b v l) (hl : l.length ≤ 1000000) (hj : j < l.length) (hup : Hup (fun k => l.getD k 0) l.length j) :
    Calls Try.prog 44 #[.iface 55 (.pointer (some ⟨b, 0, none⟩)), .int .i64 j] w fun e w' => e = .returned (.tuple #[]) ∧ ∃ l', Hp w' B b v l' ∧ l'.Perm l ∧ Hq (fun k => l'.getD k 0) l.length ∧ Kw w w' (pH b v) := by
  have H := Lib.hid h
  have HU := Lib.hid hup
  clear h hup
  go_enter Try.func44, Try.ntmps44
  go_wp2_with fail
  go_loopw [1] (fun jv wr => ∃ (i : Nat) (k : List Int), jv = .int .i64 i ∧ i < l.length ∧ k.length = l.length ∧ Hid (Hp wr B b v k) ∧ Hid (k.Perm l) ∧ Hid (Hup (fun x => k.getD x 0) l.length i) ∧ Kw w wr (pH b v)) (fun jv _ => (intOf jv).toNat)
  case atStart => exact ⟨j, l, rfl, hj, rfl, H, Lib.hid (List.Perm.refl _), HU, Kw.refl _ _⟩
  case round =>
    obtain ⟨i, k, rfl, hi, hk, HK, HP, HH, hkw⟩ := hrel
    have c0 := HK.out.box.cell
    have hmL := fun w h => mLess b w v h
    have hmS := fun w h => mSwap b w v h
    by_cases h0 : i = 0
    · subst h0
      have HQ := Lib.hid HH.out.stop0
      go_wp2_with fail
      go_end0
      exact ⟨rfl, k, HK.out, HP.out, HQ.out, hkw⟩
    · have hq : ((i : Int) - 1).tdiv 2 = (((i - 1) / 2 : Nat) : Int) := by
        rw [Int.tdiv_eq_ediv_of_nonneg (by omega)]; omega
      have hq2 : ((i - 1 : Nat) : Int) / 2 = (((i - 1) / 2 : Nat) : Int) := by omega
      have HST := Lib.hid (fun hlt => HH.out.step (a' := fun x => (swap k ((i - 1) / 2) i).getD x 0) (by omega) hi hlt (fun x => swap_at k ((i - 1) / 2) i (by omega) (by omega) x))
      have HSP := Lib.hid (fun hle => HH.out.stop (j := i) hle)
      obtain ⟨p, hp⟩ : ∃ p, p = (i - 1) / 2 := ⟨_, rfl⟩
      rw [← hp] at hq hq2
      have hpi : p < i := by omega
      have hne : ((p : Int) == (i : Int)) = false := by simp; omega
      have HL := Lib.hid (less_any B v k i p wr HK.out.row (by omega) (by omega))
      rw [← hp] at HSP HST
      by_cases hlt : k.getD i 0 < k.getD p 0
      · have hd : decide (k.getD i 0 < k.getD p 0) = true := by simpa using hlt
        rw [hd] at HL
        have HN := Lib.hid (HST.out hlt)
        have HW := Lib.hid (fun m => swap_any B v k p i (wr.drewN m) (HK.out.drewN m).row (by omega) (by omega))
        clear hp hd hlt
        go_wp2_with fail
        (with_reducible refine HL.out.mono ?_); rintro e w2 ⟨rfl, m2, rfl⟩
        go_wp2_with fail
        (with_reducible refine (HW.out m2).mono ?_); rintro e w3 ⟨rfl, o3, k3⟩
        have hb3 : Bx w3 b 53 v := (k3.block b (HK.out.drewN m2).box.lt fun e => HK.out.ne b e rfl).trans (HK.out.drewN m2).box
        go_wp2_with fail
        go_roundw
        case rel => exact ⟨p, swap k p i, rfl, by omega, by rw [swap_len]; exact hk, Lib.hid ⟨hb3, by rw [swap_len]; exact o3⟩, Lib.hid ((swap_perm k p i (by omega) (by omega)).trans HP.out), HN, (hkw.trans (Kw.drewN wr m2 _) fun _ _ h => h).trans k3 fun _ _ h => .inr h⟩
        case measure => simp [intOf]; omega
      · have hd : decide (k.getD i 0 < k.getD p 0) = false := by simpa using hlt
        rw [hd] at HL
        have HQ := Lib.hid (HSP.out (by omega))
        clear hp hd hlt
        go_wp2_with fail
        (with_reducible refine HL.out.mono ?_); rintro e w2 ⟨rfl, m2, rfl⟩
        go_wp2_with fail
        go_end0
        exact ⟨rfl, k, HK.out.drewN _, HP.out, HQ.out, hkw.trans (Kw.drewN _ _ _) fun _ _ h => h⟩

theorem len_any (a : Option Addr) (n c : Nat) (w : World) : Calls Try.prog 86 #[.slice a n c] w fun e w' => e = .returned (.int .i64 n) ∧ w' = w := by
  go_enter Try.func86, Try.ntmps86
  go_wp2_with fail
  go_ret
  exact ⟨rfl, rfl⟩

set_option maxRecDepth 20000 in
set_option maxHeartbeats 1600000 in
theorem push_any (B b : Nat) (v : Value) (l : List Int) (x : Int) (w : World) (h : Hp w B b v l) (hl : l.length ≤ 100000) (hB : B ≤ w.heap.size) (hq : Hq (fun k => l.getD k 0) l.length) :
    Calls Try.prog 26 #[.iface 55 (.pointer (some ⟨b, 0, none⟩)), .iface 3 (.int .i64 x)] w fun e w' => e = .returned (.tuple #[]) ∧ ∃ v' l', Hp w' B b v' l' ∧ l'.Perm (l ++ [x]) ∧ Hq (fun k => l'.getD k 0) l'.length ∧ Kw w w' (pH b v) ∧ Near w v v' := by
  have hmP := fun w => mPush b w
  have hmL := fun w v h => mLen b w v h
  have HP := Lib.hid (rpush_any B b v l x w h (by omega) hB)
  have HU : Hid (Hup (fun k => (l ++ [x]).getD k 0) (l.length + 1) l.length) := Lib.hid (by
    refine ⟨fun k k0 hk hne => ?_, fun k0 k k1 hk hki => by omega⟩
    have e : ∀ y, y < l.length → (l ++ [x]).getD y 0 = l.getD y 0 := fun y hy => by simp [List.getD_eq_getElem?_getD, List.getElem?_append_left hy]
    rw [e _ (by omega), e _ (by omega)]
    exact hq k k0 (by omega))
  clear h hq
  go_enter Try.func26, Try.ntmps26
  go_wp2_with fail
  (with_reducible refine HP.out.mono ?_); rintro e w2 ⟨rfl, v2, h2, k2, n2⟩
  have c2 := h2.box.cell
  obtain ⟨a2, cc, rfl⟩ := own_shape h2.row
  have H2 := Lib.hid h2
  clear h2
  go_wp2_with fail
  (with_reducible refine (len_any _ _ _ _).mono ?_); rintro e w3 ⟨rfl, rfl⟩
  have HUP := Lib.hid (up_any B b (.slice a2 (l ++ [x]).length cc) (l ++ [x]) l.length w3 H2.out (by simp; omega) (by simp) (by rw [List.length_append, List.length_singleton]; exact HU.out))
  rw [List.length_append, List.length_singleton] at HUP n2
  have HK2 := Lib.hid k2
  have HN2 := Lib.hid n2
  clear k2 n2
  go_wp2_with fail
  (with_reducible refine HUP.out.mono ?_); rintro e w4 ⟨rfl, l', h4, p4, q4, k4⟩
  have hll : l'.length = l.length + 1 := by rw [p4.length_eq]; simp
  go_wp2_with fail
  go_end0
  refine ⟨rfl, _, l', h4, p4, by rw [hll]; exact q4, HK2.out.trans k4 fun j hj e => ?_, HN2.out⟩
  rcases e with rfl | e
  · exact .inl rfl
  · rcases HN2.out with h | ⟨g, h, hle⟩
    · rw [h] at e; exact .inr e
    · rw [h] at e; injection e with e; omega

theorem take_swap (k : List Int) (i c n : Nat) (hi : i < n) (hc : c < n) (hn : n ≤ k.length) : ((swap k i c).take n).Perm (k.take n) ∧ (swap k i c).drop n = k.drop n := by
  have e : (swap k i c).take n = swap (k.take n) i c := by
    unfold swap
    rw [List.take_set, List.take_set]
    congr 1
    · congr 1
      simp [List.getD_eq_getElem?_getD, hc]
    · simp [List.getD_eq_getElem?_getD, hi]
  refine ⟨?_, ?_⟩
  · rw [e]; exact swap_perm _ _ _ (by simp; omega) (by simp; omega)
  · unfold swap
    rw [List.drop_set_of_lt hc, List.drop_set_of_lt hi]

set_option maxRecDepth 20000 in
set_option maxHeartbeats 1600000 in
theorem down_any (B b : Nat) (v : Value) (l : List Int) (n : Nat) (w : World) (h : Hp w B b v l) (hl : l.length ≤ 1000000) (hn : n ≤ l.length) (hdn : Hdn (fun k => l.getD k 0) n 0) :
    Calls Try.prog 45 #[.iface 55 (.pointer (some ⟨b, 0, none⟩)), .int .i64 0, .int .i64 n] w fun e w' => (∃ r, e = .returned (.bool r)) ∧ ∃ l', Hp w' B b v l' ∧ l'.length = l.length ∧ (l'.take n).Perm (l.take n) ∧ l'.drop n = l.drop n ∧ Hq (fun k => l'.getD k 0) n ∧ Kw w w' (pH b v) := by
  have H := Lib.hid h
  have HD := Lib.hid hdn
  clear h hdn
  have hmL := fun w h => mLess b w v h
  have hmS := fun w h => mSwap b w v h
  go_enter Try.func45, Try.ntmps45
  go_wp2_with fail
  go_loopw [7] (fun iv wr => ∃ (i : Nat) (k : List Int), iv = .int .i64 i ∧ i ≤ n ∧ k.length = l.length ∧ Hid (Hp wr B b v k) ∧ Hid ((k.take n).Perm (l.take n) ∧ k.drop n = l.drop n) ∧ Hid (Hdn (fun x => k.getD x 0) n i) ∧ Kw w wr (pH b v)) (fun iv _ => n - (intOf iv).toNat)
  case atStart => exact ⟨0, l, rfl, Nat.zero_le _, rfl, H, Lib.hid ⟨List.Perm.refl _, rfl⟩, HD, Kw.refl _ _⟩
  case round =>
    obtain ⟨i, k, rfl, hi, hk, HK, HP, HH, hkw⟩ := hrel
    have c0 := HK.out.box.cell
    have hfin : Hid (∀ (w' : World), Hp w' B b v k → Kw wr w' (pH b v) → Hq (fun x => k.getD x 0) n → ∃ l', Hp w' B b v l' ∧ l'.length = l.length ∧ (l'.take n).Perm (l.take n) ∧ l'.drop n = l.drop n ∧ Hq (fun k => l'.getD k 0) n ∧ Kw w w' (pH b v)) :=
      Lib.hid fun w' h1 h2 h3 => ⟨k, h1, hk, HP.out.1, HP.out.2, h3, hkw.trans h2 fun _ _ h => h⟩
    by_cases h1 : 2 * i + 1 < n
    · have hch : ∀ x, 0 < x → x < n → (x - 1) / 2 = i → x = 2 * i + 1 ∨ x = 2 * i + 1 + 1 := fun x a b c => by omega
      have HST := Lib.hid (fun c (h2 : c < n) (h3 : (c - 1) / 2 = i) (h4 : 0 < c) hlt hmin => HH.out.step (a' := fun x => (swap k i c).getD x 0) (i := i) (j := c) h2 h4 h3 hlt hmin (fun x => swap_at k i c (by omega) (by omega) x))
      have hsp := HH.out.stop
      obtain ⟨j1, hj1⟩ : ∃ j1, j1 = 2 * i + 1 := ⟨_, rfl⟩
      rw [← hj1] at h1 hch
      have e1 : (2 : Int) * (i : Int) + 1 = (j1 : Int) := by omega
      obtain ⟨j2, hj2⟩ : ∃ j2, j2 = j1 + 1 := ⟨_, rfl⟩
      rw [← hj2] at hch
      have e2 : (j1 : Int) + 1 = (j2 : Int) := by omega
      have hi1 : (j1 : Int) < (n : Int) := by omega
      have hi0 : (0 : Int) ≤ (j1 : Int) := by omega
      have hn63 : n ≤ 1000000 := by omega
      have HSP := Lib.hid hsp
      have HCH := Lib.hid hch
      clear hsp hch
      have hpick : (∃ c : Nat, c < n ∧ (c - 1) / 2 = i ∧ 0 < c ∧ (∀ x, 0 < x → x < n → (x - 1) / 2 = i → k.getD c 0 ≤ k.getD x 0) ∧ ((c = j2 ∧ k.getD j2 0 < k.getD j1 0) ∨ (c = j1 ∧ (j2 < n ∧ ¬ k.getD j2 0 < k.getD j1 0 ∨ ¬ j2 < n)))) := by
        by_cases hj2 : j2 < n
        · by_cases hlt : k.getD j2 0 < k.getD j1 0
          · refine ⟨j2, hj2, by omega, by omega, fun x a b c => ?_, .inl ⟨rfl, hlt⟩⟩
            rcases HCH.out x a b c with rfl | rfl <;> omega
          · refine ⟨j1, h1, by omega, by omega, fun x a b c => ?_, .inr ⟨rfl, .inl ⟨hj2, hlt⟩⟩⟩
            rcases HCH.out x a b c with rfl | rfl <;> omega
        · refine ⟨j1, h1, by omega, by omega, fun x a b c => ?_, .inr ⟨rfl, .inr hj2⟩⟩
          rcases HCH.out x a b c with rfl | rfl <;> omega
      obtain ⟨c, hc1, hc2, hc3, hmin, hcc⟩ := hpick
      have hic : i < c := by omega
      have HLA := Lib.hid (fun hlt => HST.out c hc1 hc2 hc3 hlt hmin)
      have HLB := Lib.hid (fun (hle : ¬ k.getD c 0 < k.getD i 0) => HSP.out fun x a b d => Int.le_trans (Int.not_lt.1 hle) (hmin x a b d))
      have HL1 := Lib.hid (fun (_ : j2 < n) => less_any B v k j2 j1 wr HK.out.row (by omega) (by omega))
      have HL2 := Lib.hid (fun m => less_any B v k c i (wr.drewN m) (HK.out.drewN m).row (by omega) (by omega))
      have HSW := Lib.hid (fun m => swap_any B v k i c (wr.drewN m) (HK.out.drewN m).row (by omega) (by omega))
      have HPW := Lib.hid (take_swap k i c n (by omega) hc1 (by omega))
      have cD : ∀ m, (wr.drewN m).cell? ⟨b, 0, none⟩ = some v := fun m => (HK.out.drewN m).box.cell
      have HS0 := Lib.hid (fun m => (⟨HK.out.drewN m, Kw.drewN wr m (pH b v)⟩ : Hp (wr.drewN m) B b v k ∧ Kw wr (wr.drewN m) (pH b v)))
      clear hmin hc2 hj1 hj2 HST HSP HCH
      rcases hcc with ⟨rfl, hlt⟩ | ⟨rfl, ⟨hj2, hlt⟩ | hj2⟩
      · have hd : decide (k.getD c 0 < k.getD j1 0) = true := by simpa using hlt
        have hl1 := HL1.out hc1
        rw [hd] at hl1
        have HL1 := Lib.hid hl1
        have hjn : (c : Int) < (n : Int) := by omega
        clear hd hlt hl1
        by_cases hlt : k.getD c 0 < k.getD i 0
        · have hd : decide (k.getD c 0 < k.getD i 0) = true := by simpa using hlt
          have hl2 := HL2.out
          simp only [hd] at hl2
          have HL2 := Lib.hid hl2
          have HN := Lib.hid (HLA.out hlt)
          clear hd hlt hl2 HLA HLB
          go_wp2_with fail
          (with_reducible refine HL1.out.mono ?_); rintro e w2 ⟨rfl, m2, rfl⟩
          go_wp2_with fail
          (with_reducible refine (HL2.out m2).mono ?_); rintro e w3 ⟨rfl, m3, rfl⟩
          rw [World.drewN_drewN]
          obtain ⟨M, hM⟩ : ∃ M, M = m2 + m3 := ⟨_, rfl⟩
          rw [← hM]
          clear hM
          go_wp2_with fail
          (with_reducible refine (HSW.out M).mono ?_); rintro e w4 ⟨rfl, o4, k4⟩
          have hb4 : Bx w4 b 53 v := (k4.block b (HS0.out M).1.box.lt fun e => HK.out.ne b e rfl).trans (HS0.out M).1.box
          go_wp2_with fail
          go_roundw
          case rel => exact ⟨c, swap k i c, rfl, by omega, by rw [swap_len]; exact hk, Lib.hid ⟨hb4, by rw [swap_len]; exact o4⟩, Lib.hid ⟨HPW.out.1.trans HP.out.1, HPW.out.2.trans HP.out.2⟩, HN, (hkw.trans (HS0.out M).2 fun _ _ h => h).trans k4 fun _ _ h => .inr h⟩
          case measure => simp [intOf]; omega
        · have hd : decide (k.getD c 0 < k.getD i 0) = false := by simpa using hlt
          have hl2 := HL2.out
          simp only [hd] at hl2
          have HL2 := Lib.hid hl2
          have HN := Lib.hid (HLB.out hlt)
          clear hd hlt hl2 HLA HLB
          go_wp2_with fail
          (with_reducible refine HL1.out.mono ?_); rintro e w2 ⟨rfl, m2, rfl⟩
          go_wp2_with fail
          (with_reducible refine (HL2.out m2).mono ?_); rintro e w3 ⟨rfl, m3, rfl⟩
          rw [World.drewN_drewN]
          obtain ⟨M, hM⟩ : ∃ M, M = m2 + m3 := ⟨_, rfl⟩
          rw [← hM]
          clear hM
          go_wp2_with fail
          go_ret
          exact ⟨⟨_, rfl⟩, hfin.out _ (HS0.out M).1 (HS0.out M).2 HN.out⟩
      · have hd : decide (k.getD j2 0 < k.getD c 0) = false := by simpa using hlt
        have hl1 := HL1.out hj2
        rw [hd] at hl1
        have HL1 := Lib.hid hl1
        have hjn : (j2 : Int) < (n : Int) := by omega
        clear hd hlt hl1
        by_cases hlt : k.getD c 0 < k.getD i 0
        · have hd : decide (k.getD c 0 < k.getD i 0) = true := by simpa using hlt
          have hl2 := HL2.out
          simp only [hd] at hl2
          have HL2 := Lib.hid hl2
          have HN := Lib.hid (HLA.out hlt)
          clear hd hlt hl2 HLA HLB
          go_wp2_with fail
          (with_reducible refine HL1.out.mono ?_); rintro e w2 ⟨rfl, m2, rfl⟩
          go_wp2_with fail
          (with_reducible refine (HL2.out m2).mono ?_); rintro e w3 ⟨rfl, m3, rfl⟩
          rw [World.drewN_drewN]
          obtain ⟨M, hM⟩ : ∃ M, M = m2 + m3 := ⟨_, rfl⟩
          rw [← hM]
          clear hM
          go_wp2_with fail
          (with_reducible refine (HSW.out M).mono ?_); rintro e w4 ⟨rfl, o4, k4⟩
          have hb4 : Bx w4 b 53 v := (k4.block b (HS0.out M).1.box.lt fun e => HK.out.ne b e rfl).trans (HS0.out M).1.box
          go_wp2_with fail
          go_roundw
          case rel => exact ⟨c, swap k i c, rfl, by omega, by rw [swap_len]; exact hk, Lib.hid ⟨hb4, by rw [swap_len]; exact o4⟩, Lib.hid ⟨HPW.out.1.trans HP.out.1, HPW.out.2.trans HP.out.2⟩, HN, (hkw.trans (HS0.out M).2 fun _ _ h => h).trans k4 fun _ _ h => .inr h⟩
          case measure => simp [intOf]; omega
        · have hd : decide (k.getD c 0 < k.getD i 0) = false := by simpa using hlt
          have hl2 := HL2.out
          simp only [hd] at hl2
          have HL2 := Lib.hid hl2
          have HN := Lib.hid (HLB.out hlt)
          clear hd hlt hl2 HLA HLB
          go_wp2_with fail
          (with_reducible refine HL1.out.mono ?_); rintro e w2 ⟨rfl, m2, rfl⟩
          go_wp2_with fail
          (with_reducible refine (HL2.out m2).mono ?_); rintro e w3 ⟨rfl, m3, rfl⟩
          rw [World.drewN_drewN]
          obtain ⟨M, hM⟩ : ∃ M, M = m2 + m3 := ⟨_, rfl⟩
          rw [← hM]
          clear hM
          go_wp2_with fail
          go_ret
          exact ⟨⟨_, rfl⟩, hfin.out _ (HS0.out M).1 (HS0.out M).2 HN.out⟩
      · have hjn : decide ((j2 : Int) < (n : Int)) = false := by simp; omega
        have hjn2 : (n : Int) ≤ (j2 : Int) := by omega
        have hl0 := less_any B v k c i wr HK.out.row (by omega) (by omega)
        clear HL1 HL2
        by_cases hlt : k.getD c 0 < k.getD i 0
        · have hd : decide (k.getD c 0 < k.getD i 0) = true := by simpa using hlt
          rw [hd] at hl0
          have HL0 := Lib.hid hl0
          have HN := Lib.hid (HLA.out hlt)
          clear hd hlt hl0 HLA HLB
          go_wp2_with fail
          (with_reducible refine HL0.out.mono ?_); rintro e w3 ⟨rfl, m3, rfl⟩
          obtain ⟨M, hM⟩ : ∃ M, M = m3 := ⟨_, rfl⟩
          subst hM
          go_wp2_with fail
          (with_reducible refine (HSW.out M).mono ?_); rintro e w4 ⟨rfl, o4, k4⟩
          have hb4 : Bx w4 b 53 v := (k4.block b (HS0.out M).1.box.lt fun e => HK.out.ne b e rfl).trans (HS0.out M).1.box
          go_wp2_with fail
          go_roundw
          case rel => exact ⟨c, swap k i c, rfl, by omega, by rw [swap_len]; exact hk, Lib.hid ⟨hb4, by rw [swap_len]; exact o4⟩, Lib.hid ⟨HPW.out.1.trans HP.out.1, HPW.out.2.trans HP.out.2⟩, HN, (hkw.trans (HS0.out M).2 fun _ _ h => h).trans k4 fun _ _ h => .inr h⟩
          case measure => simp [intOf]; omega
        · have hd : decide (k.getD c 0 < k.getD i 0) = false := by simpa using hlt
          rw [hd] at hl0
          have HL0 := Lib.hid hl0
          have HN := Lib.hid (HLB.out hlt)
          clear hd hlt hl0 HLA HLB
          go_wp2_with fail
          (with_reducible refine HL0.out.mono ?_); rintro e w3 ⟨rfl, m3, rfl⟩
          obtain ⟨M, hM⟩ : ∃ M, M = m3 := ⟨_, rfl⟩
          subst hM
          go_wp2_with fail
          go_ret
          exact ⟨⟨_, rfl⟩, hfin.out _ (HS0.out M).1 (HS0.out M).2 HN.out⟩
    · have hge : decide ((n : Int) ≤ 2 * (i : Int) + 1) = true := by simp; omega
      have hge2 : (n : Int) ≤ 2 * (i : Int) + 1 := by omega
      have HQ := Lib.hid (HH.out.stop fun x x0 hx hxi => by omega)
      go_wp2_with fail
      go_ret
      exact ⟨⟨_, rfl⟩, hfin.out _ HK.out (Kw.refl _ _) HQ.out⟩

set_option maxRecDepth 20000 in
set_option maxHeartbeats 1600000 in
theorem pop_any (B b : Nat) (v : Value) (l : List Int) (m : Nat) (w : World) (h : Hp w B b v l) (hm : l.length = m + 1) (hl : l.length ≤ 100000) (hq : Hq (fun k => l.getD k 0) l.length) :
    Calls Try.prog 27 #[.iface 55 (.pointer (some ⟨b, 0, none⟩))] w fun e w' => e = .returned (.iface 3 (.int .i64 (l.getD 0 0))) ∧ ∃ v' l', Hp w' B b v' l' ∧ (l.getD 0 0 :: l').Perm l ∧ Hq (fun k => l'.getD k 0) l'.length ∧ Kw w w' (pH b v) ∧ v'.ownBlock = v.ownBlock := by
  have hmP := fun w => mPop b w
  have hmL := fun w v h => mLen b w v h
  have hmS := fun w h => mSwap b w v h
  have c0 := h.box.cell
  have hne := h.ne
  have hsw := swap_any B v l 0 m w h.row (by omega) (by omega)
  rw [show ((0 : Nat) : Int) = 0 from rfl] at hsw
  have HSW := Lib.hid hsw
  clear hsw
  have HDN : Hid (Hdn (fun k => (swap l 0 m).getD k 0) m 0) := Lib.hid (Hq.take (a := fun k => l.getD k 0) (n := m) (by rw [← hm]; exact hq) fun k k0 hk => by
    show (swap l 0 m).getD k 0 = _
    rw [swap_at l 0 m (by omega) (by omega), if_neg (by omega), if_neg k0])
  have hkl := swap_len l 0 m
  have HPM := Lib.hid (swap_perm l 0 m (by omega) (by omega))
  have HLA : Hid ((swap l 0 m).drop m = [l.getD 0 0]) := Lib.hid (by
    have e := swap_at l 0 m (by omega) (by omega) m
    rw [if_pos rfl] at e
    rw [drop_at (by rw [hkl]; omega), List.drop_eq_nil_of_le (by rw [hkl]; omega)]
    rw [List.getD_eq_getElem?_getD, List.getElem?_eq_getElem (by rw [hkl]; omega), Option.getD_some] at e
    rw [e])
  obtain ⟨k, hk⟩ : ∃ k, k = swap l 0 m := ⟨_, rfl⟩
  rw [← hk] at HSW HDN hkl HPM HLA
  obtain ⟨x0, hx0⟩ : ∃ x, x = l.getD 0 0 := ⟨_, rfl⟩
  rw [← hx0] at HLA ⊢
  obtain ⟨a, c, rfl⟩ := own_shape h.row
  have HB := Lib.hid h.box
  have hm1 : ((l.length : Nat) : Int) - 1 = (m : Int) := by omega
  have hma : m + 1 ≤ l.length := by omega
  have hmb : l.length ≤ m + 1 := by omega
  clear hk hx0 h hq hm
  go_enter Try.func27, Try.ntmps27
  go_wp2_with fail
  (with_reducible refine (len_any _ _ _ _).mono ?_); rintro e w1 ⟨rfl, rfl⟩
  go_wp2_with fail
  (with_reducible refine HSW.out.mono ?_); rintro e w2 ⟨rfl, o2, k2⟩
  have b2 : Bx w2 b 53 (.slice a l.length c) := (k2.block b HB.out.lt fun e => hne b e rfl).trans HB.out
  have c0 := b2.cell
  have HDO := Lib.hid (down_any B b (.slice a l.length c) k m w2 ⟨b2, by rw [hkl]; exact o2⟩ (by omega) (by omega) HDN.out)
  clear b2 o2
  go_wp2_with fail
  (with_reducible refine HDO.out.mono ?_); rintro e w3 ⟨⟨r, rfl⟩, l3, h3, hl3, p3, d3, q3, k3⟩
  have e3 : l3 = l3.take m ++ [x0] := by rw [← HLA.out, ← d3, List.take_append_drop]
  have HPO := Lib.hid (rpop_any B b (.slice a l.length c) (l3.take m) x0 w3 (by rw [← e3]; exact h3) (by simp; omega))
  have HP3 : Hid ((x0 :: l3.take m).Perm l) := Lib.hid (by
    have h1 : (l3.take m ++ [x0]).Perm (k.take m ++ [x0]) := p3.append_right _
    rw [← HLA.out, List.take_append_drop] at h1
    exact (List.perm_append_singleton x0 (l3.take m)).symm.trans ((by rw [← HLA.out]; exact h1 : (l3.take m ++ [x0]).Perm k).trans HPM.out))
  have HQ3 : Hid (Hq (fun k => (l3.take m).getD k 0) (l3.take m).length) := Lib.hid (fun x h0 hx => by
    rw [List.length_take, Nat.min_eq_left (by omega)] at hx
    have e : ∀ y, y < m → (l3.take m).getD y 0 = l3.getD y 0 := fun y hy => by simp [List.getD_eq_getElem?_getD, hy]
    show (l3.take m).getD ((x - 1) / 2) 0 ≤ (l3.take m).getD x 0
    rw [e _ (by omega), e _ hx]
    exact q3 x h0 hx)
  clear p3 d3 q3 e3 h3
  go_wp2_with fail
  (with_reducible refine HPO.out.mono ?_); rintro e w4 ⟨rfl, v4, h4, k4, n4⟩
  go_wp2_with fail
  go_ret
  exact ⟨rfl, v4, l3.take m, h4, HP3.out, HQ3.out, ((k2.mono fun _ h => .inr h).trans k3 fun _ _ h => h).trans k4 fun _ _ h => h, n4⟩
end Go.Proofs.Ytemdhbeegheefaa
