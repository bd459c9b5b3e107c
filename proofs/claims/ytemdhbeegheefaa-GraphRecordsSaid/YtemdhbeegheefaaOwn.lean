
/- Lists of lists that the call owns: where an append lays what it gives. Of no program. No condition. -/
import Derived.Test.YtemdhbeegheefaaKit
namespace Go.Proofs.Ytemdhbeegheefaa
open Go.RowKit

/-- Behind an append: in the row where it was, or in a new one. -/
def Near (w : World) (v v' : Value) : Prop := v'.ownBlock = v.ownBlock ∨ ∃ g, v'.ownBlock = some g ∧ w.heap.size ≤ g

section
variable {P : Program}

theorem append_near (w : World) (base : Nat) (t ty e : TypeId) (i : TypeInfo) (z : Value) (ht : P.underlying t = some (.slice e)) (hi : P.info? e = some i) (hz : i.zero = some z)
    (v : Value) (n : Nat) (xs : List Value) (hown : w.ownsRow base e i.size v n xs)
    (a : Addr) (m c : Nat) (news : List Value) (hl : news.length = m * i.size) (hnews : ∀ j u, news[j]? = some u → w.cell? (a.add j) = some u) (h1 : ∀ u ∈ news, u.oneCell' = true)
    (h63 : n + m ≤ maxLen) (hbytes : (n + m) * i.bytes ≤ 140737488355328) {v' : Value} {w' : World}
    (hr' : (Builtin.append_ #[t, t] ty #[v, .slice (some a) m c]).run P w = .ok v' w') : Near w v v' := by
  have hsmall : n + m ≤ 9223372036854775807 := by simp only [maxLen] at h63; omega
  rcases hown.2 with ⟨rfl, rfl⟩ | ⟨g, cap, cur, rfl, hbg, hg, hnc, hcm, hcs, htake⟩
  · by_cases hm : m = 0
    · subst hm
      have hn : news = [] := List.eq_nil_of_length_eq_zero (by simpa using hl)
      subst hn
      have hr : (Builtin.append_ #[t, t] ty #[.slice none 0 0, .slice (some a) 0 c]).run P w = .ok (.slice none 0 0) w := by
        simp [Builtin.append_, run_underlying ht, sizeOf, typeInfo, hi, Builtin.lenOf, Builtin.firstCells, loadCells, loadCellsFrom]
      rw [hr] at hr'
      cases hr'
      exact .inl rfl
    · have hr := run_append_nil (P := P) w t ty e i z ht hi hz a m c news hl hnews (by omega) (by omega) (by have hb := hbytes; simp only [Nat.zero_add] at hb; omega)
      rw [hr] at hr'
      cases hr'
      exact .inr ⟨_, rfl, Nat.le_refl _⟩
  · by_cases hroom : n + m ≤ cap
    · have hfit : n * i.size + news.length ≤ cur.size := by rw [hl, hcs, ← Nat.add_mul]; exact Nat.mul_le_mul_right _ hroom
      have hr := run_append_room (P := P) w t ty e i ht hi g n cap cur hg a m c news hl hnews h1 hroom hfit
      rw [hr] at hr'
      cases hr'
      exact .inl rfl
    · have holds : ∀ j u, xs[j]? = some u → w.cell? ((⟨g, 0, none⟩ : Addr).add j) = some u := hown.cells (g := g) rfl
      have hr := run_append_grow (P := P) w t ty e i z ht hi hz ⟨g, 0, none⟩ n cap xs hown.1 holds a m c news hl hnews (by omega) (by omega) (growslice_fits (by omega) hbytes)
      rw [hr] at hr'
      cases hr'
      exact .inr ⟨_, rfl, Nat.le_refl _⟩

variable {ops : Array Oper} {rest : List Oper} {o : Oper} {a : Act} {Q : Exit → Act → World → Prop} {w1 : World}

/-- 'v = append(v, x)' with one element that has been laid into a new block of its own: and where it then lies. -/
theorem wp_app2 {t e k bytes : Nat} {v : Value} {n : Nat} {xs news : List Value} (T : SlTy P t e k bytes) (hgd : o.guard = none) (s x : Operand) (ho : o.op = .call { callee := .builtin .append, args := #[s, x], argTypes := #[t, t] })
    (B : Nat) (hown : w1.ownsRow B e k v n xs) (hs : a.eval s = v) {g : Nat} (hx : a.eval x = .slice (some ⟨g, 0, none⟩) 1 1) (hg : g = w1.heap.size)
    (hn : news.length = k) (h1 : ∀ u ∈ news, u.oneCell' = true) (hlen : (n + 1) * bytes ≤ 140737488355328) (hlen2 : n ≤ 1000000000000000) (hB : B ≤ w1.heap.size)
    (h : ∀ v' w', w'.ownsRow B e k v' (n + 1) (xs ++ news) → Below B w1 w' → w1.grownBy w' v.ownBlock → Near w1 v v' → wpList P ops Q rest (a.put o.dst v') w') :
    wpList P ops Q (o :: rest) a (w1.alloc (.cells news.toArray e)) := by
  subst hg
  obtain ⟨i, z, hi, hz, hsz, hby, hzs⟩ := T.hi
  subst hsz
  subst hby
  have hnews : ∀ j u, news[j]? = some u → (w1.alloc (.cells news.toArray e)).cell? ((⟨w1.heap.size, 0, none⟩ : Addr).add j) = some u := by
    intro j u hj
    rw [addr_add, cell_of_row _ w1.heap.size _ news.toArray e (0, 0) (heap_alloc_new w1 _)]
    simpa using hj
  refine wpList_plain hgd fun _ hK => ?_
  obtain ⟨v', w', hr, h2, h3, _⟩ := run_append_own (P := P) (w1.alloc (.cells news.toArray e)) B t o.type e i z i.size i.bytes T.ht hi hz rfl rfl hzs T.hk v n xs (hown.alloc _) ⟨w1.heap.size, 0, none⟩ 1 1 news (by omega) hnews h1 (by unfold maxLen; omega) hlen (by simp; omega)
  have hnear := append_near (w1.alloc (.cells news.toArray e)) B t o.type e i z T.ht hi hz v n xs (hown.alloc _) ⟨w1.heap.size, 0, none⟩ 1 1 news (by omega) hnews h1 (by unfold maxLen; omega) hlen hr
  have hg2 : w1.grownBy w' v.ownBlock := grownBy_trans (World.grownBy_alloc w1 _ _) h3
  have hfin := h v' w' h2 ((Below.refl B w1).grown hg2 hB (fun j hj => (hown.lt j hj).1)) hg2 (by
    rcases hnear with h | ⟨g', hg', hle⟩
    · exact .inl h
    · exact .inr ⟨g', hg', by simp at hle; omega⟩)
  unfold Oper.wp execOp
  simp only [ho, resolve, invoke, builtin, Sem.run_bind, Sem.run_pure, Result.andThen_ok, List.map_toArray, List.map_cons, List.map_nil, hs, hx, hr]
  exact hK _ _ hfin

/-- 'v = append(v, l...)': l a slice that is read: and where it then lies. -/
theorem wp_app_all2 {t e k bytes : Nat} {v vs : Value} {n m : Nat} {xs news : List Value} (T : SlTy P t e k bytes) (hgd : o.guard = none) (s x : Operand) (ho : o.op = .call { callee := .builtin .append, args := #[s, x], argTypes := #[t, t] })
    (B : Nat) (hown : w1.ownsRow B e k v n xs) (hrd : Rd w1 k vs m news) (hs : a.eval s = v) (hx : a.eval x = vs)
    (h1 : ∀ u ∈ news, u.oneCell' = true) (hlen : (n + m) * bytes ≤ 140737488355328) (hlen2 : n + m ≤ 1000000000000000) (hB : B ≤ w1.heap.size)
    (h : ∀ v' w', w'.ownsRow B e k v' (n + m) (xs ++ news) → Below B w1 w' → w1.grownBy w' v.ownBlock → Near w1 v v' → wpList P ops Q rest (a.put o.dst v') w') :
    wpList P ops Q (o :: rest) a w1 := by
  obtain ⟨i, z, hi, hz, hsz, hby, hzs⟩ := T.hi
  subst hsz
  subst hby
  have go : ∀ (ad : Addr) (c : Nat), vs = .slice (some ad) m c → (∀ j u, news[j]? = some u → w1.cell? (ad.add j) = some u) → wpList P ops Q (o :: rest) a w1 := by
    intro ad c hv hnews
    subst hv
    refine wpList_plain hgd fun _ hK => ?_
    obtain ⟨v', w', hr, h2, h3, _⟩ := run_append_own (P := P) w1 B t o.type e i z i.size i.bytes T.ht hi hz rfl rfl hzs T.hk v n xs hown ad m c news hrd.1 hnews h1 (by unfold maxLen; omega) hlen hB
    have hnear := append_near w1 B t o.type e i z T.ht hi hz v n xs hown ad m c news hrd.1 hnews h1 (by unfold maxLen; omega) hlen hr
    have hfin := h v' w' h2 ((Below.refl B w1).grown h3 hB (fun j hj => (hown.lt j hj).1)) h3 hnear
    unfold Oper.wp execOp
    simp only [ho, resolve, invoke, builtin, Sem.run_bind, Sem.run_pure, Result.andThen_ok, List.map_toArray, List.map_cons, List.map_nil, hs, hx, hr]
    exact hK _ _ hfin
  rcases hrd.2 with ⟨hv | ⟨p, c', hv⟩, h0⟩ | ⟨b, off, cap, hv, hlt, hc, _⟩
  · subst hv
    subst h0
    have h0 : news = [] := List.eq_nil_of_length_eq_zero (by rw [hrd.1]; simp)
    subst h0
    refine wpList_append_own_none hgd s x t ho B e i i.size T.ht hi v n xs hs hown hx ?_
    exact h v w1 (by simpa using hown) (Below.refl _ _) ⟨rfl, rfl, rfl, Nat.le_refl _, fun _ _ _ => rfl⟩ (.inl rfl)
  · subst h0
    have h0 : news = [] := List.eq_nil_of_length_eq_zero (by rw [hrd.1]; simp)
    subst h0
    exact go p c' hv (by intro j u hj; simp at hj)
  · exact go ⟨b, off, none⟩ cap hv (by intro j u hj; rw [addr_add]; exact hc j u hj)
end

/-! ### lists of lists of tokens -/
/-- v reads as these lists. -/
def Rts (w : World) (v : Value) (ls : List (List (Int × List UInt8))) : Prop :=
  ∃ vs : List Value, Rd w 1 v ls.length vs ∧ ∀ (i : Nat) (u : Value) (l : List (Int × List UInt8)), vs[i]? = some u → ls[i]? = some l → Rt w u l

/-- The call owns the row; what it holds reads as these lists, and lies elsewhere. -/
def Oll (w : World) (B : Nat) (T : TypeId) (v : Value) (ls : List (List (Int × List UInt8))) : Prop :=
  ∃ vs : List Value, w.ownsRow B T 1 v ls.length vs ∧ ∀ (i : Nat) (u : Value) (l : List (Int × List UInt8)), vs[i]? = some u → ls[i]? = some l → Rt w u l ∧ ∀ b, u.ownBlock = some b → b < w.heap.size ∧ v.ownBlock ≠ some b ∧ B ≤ b

theorem Rts.below' {w w' : World} {v : Value} {ls : List (List (Int × List UInt8))} (h : Rts w v ls) (hb : Below w.heap.size w w') : Rts w' v ls := by
  obtain ⟨vs, h1, h2⟩ := h
  exact ⟨vs, h1.below' hb, fun i u l hu hl => (h2 i u l hu hl).below' hb⟩
theorem Rts.drewN {w : World} {v : Value} {ls : List (List (Int × List UInt8))} (h : Rts w v ls) (n : Nat) : Rts (w.drewN n) v ls := h
theorem Rts.shape {w : World} {v : Value} {ls : List (List (Int × List UInt8))} (h : Rts w v ls) : ∃ a c, v = .slice a ls.length c := by
  obtain ⟨vs, h1, _⟩ := h
  exact h1.shape
theorem Rts.nil (w : World) : Rts w (.slice none 0 0) [] := ⟨[], ⟨rfl, .inl ⟨.inl rfl, rfl⟩⟩, by simp⟩
/-- One of the lists. -/
theorem Rts.at {w : World} {a : Option Addr} {n c : Nat} {ls : List (List (Int × List UInt8))} (h : Rts w (.slice a n c) ls) {i : Nat} (hi : i < ls.length) :
    ∃ b o u, a = some ⟨b, o, none⟩ ∧ w.cell? ⟨b, o + i, none⟩ = some u ∧ Rt w u ls[i] ∧ b < w.heap.size ∧ ls.length ≤ c := by
  obtain ⟨vs, h1, h2⟩ := h
  have hl : vs.length = ls.length := by rw [h1.1, Nat.mul_one]
  rcases h1.2 with ⟨_, h0⟩ | ⟨b, o, cap, hv, hlt, hc, hcap⟩
  · omega
  · cases hv
    exact ⟨b, o, vs[i]'(by omega), rfl, hc _ _ (List.getElem?_eq_getElem (by omega)), h2 i _ _ (List.getElem?_eq_getElem (by omega)) (List.getElem?_eq_getElem hi), hlt (by omega), hcap⟩

theorem Oll.own {w : World} {B : Nat} {T : TypeId} {v : Value} {ls : List (List (Int × List UInt8))} (h : Oll w B T v ls) : ∃ vs, w.ownsRow B T 1 v ls.length vs := by
  obtain ⟨vs, h1, _⟩ := h
  exact ⟨vs, h1⟩
theorem Oll.under {w : World} {B : Nat} {T : TypeId} {v : Value} {ls : List (List (Int × List UInt8))} (h : Oll w B T v ls) : Under w.heap.size v := by
  obtain ⟨vs, h1, _⟩ := h
  exact own_under h1
theorem Oll.shape {w : World} {B : Nat} {T : TypeId} {v : Value} {ls : List (List (Int × List UInt8))} (h : Oll w B T v ls) : ∃ a c, v = .slice a ls.length c := by
  obtain ⟨vs, h1, _⟩ := h
  exact own_shape h1
theorem Oll.rts {w : World} {B : Nat} {T : TypeId} {v : Value} {ls : List (List (Int × List UInt8))} (h : Oll w B T v ls) : Rts w v ls := by
  obtain ⟨vs, h1, h2⟩ := h
  exact ⟨vs, own_rd h1, fun i u l hu hl => (h2 i u l hu hl).1⟩
theorem Oll.drewN {w : World} {B : Nat} {T : TypeId} {v : Value} {ls : List (List (Int × List UInt8))} (h : Oll w B T v ls) (n : Nat) : Oll (w.drewN n) B T v ls := h
theorem Oll.nil (w : World) (B : Nat) (T : TypeId) : Oll w B T (.slice none 0 0) [] := ⟨[], World.ownsRow_nil _ _ _ _, by simp⟩
theorem Oll.made (w : World) (B : Nat) (T : TypeId) (hB : B ≤ w.heap.size) : Oll (w.alloc (.cells #[] T)) B T (.slice (some ⟨w.heap.size, 0, none⟩) 0 0) [] :=
  ⟨[], World.ownsRow_made w #[] 0 hB (by decide) rfl, by simp⟩
theorem Oll.below' {w w' : World} {B : Nat} {T : TypeId} {v : Value} {ls : List (List (Int × List UInt8))} (h : Oll w B T v ls) (hb : Below w.heap.size w w') : Oll w' B T v ls := by
  obtain ⟨vs, h1, h2⟩ := h
  exact ⟨vs, own_below h1 (own_under h1) hb, fun i u l hu hl => ⟨(h2 i u l hu hl).1.below' hb, fun b hu' => ⟨Nat.lt_of_lt_of_le ((h2 i u l hu hl).2 b hu').1 hb.size, ((h2 i u l hu hl).2 b hu').2⟩⟩⟩
theorem Oll.mono {w : World} {B B' : Nat} {T : TypeId} {v : Value} {ls : List (List (Int × List UInt8))} (h : Oll w B T v ls) (hB : B' ≤ B) : Oll w B' T v ls := by
  obtain ⟨vs, h1, h2⟩ := h
  exact ⟨vs, own_mono h1 hB, fun i u l hu hl => ⟨(h2 i u l hu hl).1, fun b hb => ⟨((h2 i u l hu hl).2 b hb).1, ((h2 i u l hu hl).2 b hb).2.1, Nat.le_trans hB ((h2 i u l hu hl).2 b hb).2.2⟩⟩⟩

/-- A block below turns: what the call owns stays. -/
theorem Oll.apart {w w' : World} {B g : Nat} {T : TypeId} {v : Value} {ls : List (List (Int × List UInt8))} (h : Oll w B T v ls) (hg : w.grownBy w' (some g)) (hlt : g < B) : Oll w' B T v ls := by
  obtain ⟨vs, h1, h2⟩ := h
  refine ⟨vs, h1.kept hg ?_, fun i u l hu hl => ⟨Rd.grown (h2 i u l hu hl).1 hg fun b hb e => ?_, fun b hb => ⟨Nat.lt_of_lt_of_le ((h2 i u l hu hl).2 b hb).1 hg.size, ((h2 i u l hu hl).2 b hb).2⟩⟩⟩
  · right; intro e; have := (h1.lt g e).1; omega
  · cases e; have := ((h2 i u l hu hl).2 _ hb).2.2; omega

section
variable {P : Program} {ops : Array Oper} {rest : List Oper} {o : Oper} {a : Act} {Q : Exit → Act → World → Prop} {w1 : World}
/-- 'v = append(v, u)': u a list. -/
theorem wp_oll {t e bytes : Nat} {v u : Value} {ls : List (List (Int × List UInt8))} {l : List (Int × List UInt8)} (T : SlTy P t e 1 bytes) (hgd : o.guard = none) (s x : Operand) (ho : o.op = .call { callee := .builtin .append, args := #[s, x], argTypes := #[t, t] })
    (B : Nat) (hown : Oll w1 B e v ls) (hu : Rt w1 u l) (hsep : ∀ b, u.ownBlock = some b → b < w1.heap.size ∧ v.ownBlock ≠ some b ∧ B ≤ b) (hs : a.eval s = v) {g : Nat} (hx : a.eval x = .slice (some ⟨g, 0, none⟩) 1 1) (hg : g = w1.heap.size)
    (hone : u.oneCell' = true) (hlen : (ls.length + 1) * bytes ≤ 140737488355328) (hlen2 : ls.length ≤ 1000000000000000) (hB : B ≤ w1.heap.size)
    (h : ∀ v' w', Oll w' B e v' (ls ++ [l]) → Below B w1 w' → wpList P ops Q rest (a.put o.dst v') w') :
    wpList P ops Q (o :: rest) a (w1.alloc (.cells #[u] e)) := by
  obtain ⟨vs, h1, h2⟩ := hown
  have hvl : vs.length = ls.length := by rw [h1.1, Nat.mul_one]
  refine wp_app2 (news := [u]) T hgd s x ho B h1 hs hx hg rfl (by simpa using hone) hlen hlen2 hB fun v' w' hown' hbel hgr hnear => h v' w' ⟨vs ++ [u], by simpa using hown', ?_⟩ hbel
  intro i u' l' hu' hl'
  have key : ∀ (u0 : Value) (l0 : List (Int × List UInt8)), Rt w1 u0 l0 → (∀ b, u0.ownBlock = some b → b < w1.heap.size ∧ v.ownBlock ≠ some b ∧ B ≤ b) → Rt w' u0 l0 ∧ ∀ b, u0.ownBlock = some b → b < w'.heap.size ∧ v'.ownBlock ≠ some b ∧ B ≤ b := by
    intro u0 l0 hr hs0
    refine ⟨Rd.grown hr hgr fun b hb e => (hs0 b hb).2.1 e.symm, fun b hb => ⟨Nat.lt_of_lt_of_le (hs0 b hb).1 hgr.size, ?_, (hs0 b hb).2.2⟩⟩
    rcases hnear with hv | ⟨g', hg', hle⟩
    · rw [hv]; exact (hs0 b hb).2.1
    · rw [hg']; intro e; cases e; have := (hs0 b hb).1; omega
  by_cases hi : i < vs.length
  · rw [List.getElem?_append_left hi] at hu'
    rw [List.getElem?_append_left (by omega)] at hl'
    exact key u' l' (h2 i u' l' hu' hl').1 (h2 i u' l' hu' hl').2
  · rw [List.getElem?_append_right (by omega)] at hu'
    rw [List.getElem?_append_right (by omega)] at hl'
    have e1 : i - vs.length = 0 := by
      have := (List.getElem?_eq_some_iff.1 hu').1
      simpa using this
    have e2 : i - ls.length = 0 := by omega
    rw [e1] at hu'
    rw [e2] at hl'
    simp at hu' hl'
    subst hu'
    subst hl'
    exact key u l hu hsep
end

end Go.Proofs.Ytemdhbeegheefaa
