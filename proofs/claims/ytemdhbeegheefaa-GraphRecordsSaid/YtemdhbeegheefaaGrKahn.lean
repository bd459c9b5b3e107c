
/- Groups in order: what the loop over what is ready keeps, and that it answers as the document. No program in sight. No condition. -/
import Derived.Test.YtemdhbeegheefaaGrPure
namespace Go.Proofs.Ytemdhbeegheefaa
namespace Gr

/-- Numbers that name the groups. -/
structure Cls (g : G) (gp : Nat → Nat) (many : Nat) : Prop where
  lt : ∀ v, v < g.length → gp v < many
  onto : ∀ c, c < many → ∃ v, v < g.length ∧ gp v = c
  same : ∀ a b, a < g.length → b < g.length → (gp a = gp b ↔ R g a b ∧ R g b a)
  le : many ≤ g.length
theorem Cls.eq {g : G} {gp : Nat → Nat} {many : Nat} (h : Cls g gp many) {a b : Nat} (ha : a < g.length) (hb : b < g.length) : Gr.same g a b = true ↔ gp a = gp b := by
  rw [same_iff, h.same a b ha hb]
/-- The nodes of a group. -/
def nd (g : G) (gp : Nat → Nat) (c : Nat) : List Nat := (List.range g.length).filter fun k => gp k == c
theorem nd_mem {g : G} {gp : Nat → Nat} {c k : Nat} : k ∈ nd g gp c ↔ k < g.length ∧ gp k = c := by simp [nd]
theorem nd_sorted (g : G) (gp : Nat → Nat) (c : Nat) : (nd g gp c).Pairwise (· < ·) := List.pairwise_lt_range.filter _
/-- The least one. -/
def fst (g : G) (gp : Nat → Nat) (c : Nat) : Nat := (nd g gp c).headD 0
theorem Cls.nd_cons {g : G} {gp : Nat → Nat} {many : Nat} (h : Cls g gp many) {c : Nat} (hc : c < many) : ∃ l, nd g gp c = fst g gp c :: l := by
  obtain ⟨v, h1, h2⟩ := h.onto c hc
  have hm : v ∈ nd g gp c := nd_mem.2 ⟨h1, h2⟩
  unfold fst
  cases e : nd g gp c with
  | nil => rw [e] at hm; cases hm
  | cons a l => exact ⟨l, rfl⟩
theorem Cls.fst_mem {g : G} {gp : Nat → Nat} {many : Nat} (h : Cls g gp many) {c : Nat} (hc : c < many) : fst g gp c < g.length ∧ gp (fst g gp c) = c := by
  obtain ⟨l, hl⟩ := h.nd_cons hc
  exact nd_mem.1 (by rw [hl]; simp)
theorem Cls.fst_le {g : G} {gp : Nat → Nat} {many : Nat} (h : Cls g gp many) {v : Nat} (hv : v < g.length) : fst g gp (gp v) ≤ v := by
  obtain ⟨l, hl⟩ := h.nd_cons (h.lt v hv)
  have hm : v ∈ nd g gp (gp v) := nd_mem.2 ⟨hv, rfl⟩
  have hs := nd_sorted g gp (gp v)
  rw [hl] at hm hs
  rcases List.mem_cons.1 hm with e | hm
  · omega
  · have := (List.pairwise_cons.1 hs).1 v hm; omega
theorem Cls.grp {g : G} {gp : Nat → Nat} {many : Nat} (h : Cls g gp many) {v : Nat} (hv : v < g.length) : grp g v = nd g gp (gp v) := by
  unfold Gr.grp nd
  apply List.filter_congr
  intro k hk
  have hk := List.mem_range.1 hk
  have := h.eq hv hk
  rw [Bool.eq_iff_iff, this, beq_iff_eq]
  exact eq_comm

/-- What the edges between groups are: each once. -/
structure Eds (g : G) (gp : Nat → Nat) (ks : List (Nat × Nat)) : Prop where
  nodup : ks.Nodup
  mem : ∀ a c, (a, c) ∈ ks ↔ ∃ i j, E g i j ∧ gp i = a ∧ gp j = c ∧ a ≠ c
/-- Whereto edges lead from a group. -/
def ld (ks : List (Nat × Nat)) (a : Nat) : List Nat := (ks.filter fun e => e.1 == a).map (·.2)
theorem ld_mem {ks : List (Nat × Nat)} {a c : Nat} : c ∈ ld ks a ↔ (a, c) ∈ ks := by
  simp only [ld, List.mem_map, List.mem_filter, beq_iff_eq]
  constructor
  · rintro ⟨⟨x, y⟩, ⟨h1, h2⟩, h3⟩
    simp only at h2 h3
    subst h2 h3
    exact h1
  · intro h; exact ⟨(a, c), ⟨h, rfl⟩, rfl⟩
theorem ld_nodup {ks : List (Nat × Nat)} (h : ks.Nodup) (a : Nat) : (ld ks a).Nodup := by
  have h1 : (ks.filter fun e => e.1 == a).Nodup := h.filter _
  unfold ld
  rw [List.Nodup, List.pairwise_map]
  refine h1.imp_of_mem fun {x y} hx hy hxy e => hxy ?_
  have h2 := (List.mem_filter.1 hx).2
  have h3 := (List.mem_filter.1 hy).2
  simp only [beq_iff_eq] at h2 h3
  exact Prod.ext (h2.trans h3.symm) e
/-- From how many groups that are not out edges lead to a group. -/
def cnt (ks : List (Nat × Nat)) (oc : List Nat) (c : Nat) : Nat := ks.countP fun e => e.2 == c && !oc.contains e.1
theorem cnt_zero {ks : List (Nat × Nat)} {oc : List Nat} {c : Nat} : cnt ks oc c = 0 ↔ ∀ a, (a, c) ∈ ks → a ∈ oc := by
  unfold cnt
  rw [List.countP_eq_zero]
  constructor
  · intro h a ha
    have := h (a, c) ha
    simpa using this
  · rintro h ⟨a, x⟩ ha
    by_cases e : x = c
    · subst e; have := h a ha; simp [this]
    · simp [e]
/-- A group more is out. -/
theorem cnt_more {ks : List (Nat × Nat)} (hn : ks.Nodup) {oc : List Nat} {a : Nat} (ha : a ∉ oc) (c : Nat) : cnt ks oc c = cnt ks (oc ++ [a]) c + if c ∈ ld ks a then 1 else 0 := by
  rw [show (if c ∈ ld ks a then 1 else 0) = ks.count (a, c) by
    rw [hn.count]
    by_cases h : (a, c) ∈ ks
    · rw [if_pos (ld_mem.2 h), if_pos h]
    · rw [if_neg (fun h' => h (ld_mem.1 h')), if_neg h]]
  clear hn
  unfold cnt
  induction ks with
  | nil => rfl
  | cons e l ih =>
    rw [List.countP_cons, List.countP_cons, List.count_cons, ih]
    obtain ⟨x, y⟩ := e
    by_cases h1 : y = c
    · by_cases h2 : x = a
      · subst h1 h2; simp [ha]; omega
      · by_cases h3 : x ∈ oc
        · simp [h1, h2, h3]
        · simp [h1, h2, h3]; omega
    · simp [h1]

/-- What the loop keeps: the groups that are out; how many are ahead; which nodes are ready. -/
structure Kn (g : G) (gp : Nat → Nat) (many : Nat) (oc : List Nat) (ct : Nat → Nat) (ah h : List Nat) : Prop where
  nd : oc.Nodup
  lt : ∀ c ∈ oc, c < many
  len : ah.length = many
  ah : ∀ c, c < many → ah.getD c 0 = ct c
  hn : h.Nodup
  hm : ∀ x, x ∈ h ↔ ∃ c, c < many ∧ c ∉ oc ∧ ct c = 0 ∧ x = fst g gp c
  hz : ∀ c ∈ oc, ct c = 0

variable {g : G} {gp : Nat → Nat} {many : Nat} {oc : List Nat} {ct : Nat → Nat} {ah h : List Nat}

theorem Kn.perm (k : Kn g gp many oc ct ah h) {h' : List Nat} (hp : h.Perm h') : Kn g gp many oc ct ah h' :=
  ⟨k.nd, k.lt, k.len, k.ah, hp.nodup_iff.1 k.hn, fun x => (hp.mem_iff (a := x)).symm.trans (k.hm x), k.hz⟩
theorem Kn.congr (k : Kn g gp many oc ct ah h) {ct' : Nat → Nat} (hc : ∀ c, c < many → ct c = ct' c) : Kn g gp many oc ct' ah h :=
  ⟨k.nd, k.lt, k.len, fun c h1 => (k.ah c h1).trans (hc c h1), k.hn, fun x => (k.hm x).trans ⟨fun ⟨c, h1, h2, h3, h4⟩ => ⟨c, h1, h2, by rw [← hc c h1]; exact h3, h4⟩, fun ⟨c, h1, h2, h3, h4⟩ => ⟨c, h1, h2, by rw [hc c h1]; exact h3, h4⟩⟩,
    fun c h1 => (hc c (k.lt c h1)) ▸ k.hz c h1⟩
/-- The least node is taken. -/
theorem Kn.pop (C : Cls g gp many) {x : Nat} (k : Kn g gp many oc ct ah (x :: h)) : x < g.length ∧ gp x < many ∧ gp x ∉ oc ∧ x = fst g gp (gp x) ∧ ct (gp x) = 0 ∧ Kn g gp many (oc ++ [gp x]) ct ah h := by
  obtain ⟨c, h1, h2, h3, h4⟩ := (k.hm x).1 (by simp)
  have h5 := C.fst_mem h1
  rw [← h4] at h5
  obtain ⟨h5, rfl⟩ := h5
  have hn := List.nodup_cons.1 k.hn
  refine ⟨h5, h1, h2, h4, h3, ?_, ?_, k.len, k.ah, hn.2, ?_, ?_⟩
  · rw [List.nodup_append]
    refine ⟨k.nd, by simp, fun a ha b hb e => ?_⟩
    rw [List.mem_singleton.1 hb] at e
    exact h2 (e ▸ ha)
  · intro c hc
    rcases List.mem_append.1 hc with hc | hc
    · exact k.lt c hc
    · rw [List.mem_singleton.1 hc]; exact h1
  · intro y
    constructor
    · intro hy
      obtain ⟨c, a1, a2, a3, a4⟩ := (k.hm y).1 (by simp [hy])
      refine ⟨c, a1, ?_, a3, a4⟩
      intro hc
      rcases List.mem_append.1 hc with hc | hc
      · exact a2 hc
      · rw [List.mem_singleton.1 hc, ← h4] at a4
        exact hn.1 (a4 ▸ hy)
    · rintro ⟨c, a1, a2, a3, a4⟩
      have := (k.hm y).2 ⟨c, a1, fun hc => a2 (List.mem_append_left _ hc), a3, a4⟩
      rcases List.mem_cons.1 this with e | hy
      · exfalso
        apply a2
        have := (C.fst_mem a1).2
        rw [← a4, e] at this
        simp [this]
      · exact hy
  · intro c hc
    rcases List.mem_append.1 hc with hc | hc
    · exact k.hz c hc
    · rw [List.mem_singleton.1 hc]; exact h3
/-- One less is ahead. -/
theorem Kn.less (k : Kn g gp many oc ct ah h) {to : Nat} (hto : to < many) {m : Nat} (hc : ct to = m + 2) : Kn g gp many oc (fun c => if c = to then m + 1 else ct c) (ah.set to (m + 1)) h := by
  refine ⟨k.nd, k.lt, by simp [k.len], ?_, k.hn, ?_, ?_⟩
  · intro c h1
    by_cases e : c = to
    · subst e; simp [k.len, h1]
    · have := k.ah c h1
      rw [if_neg e, ← this]
      simp [List.getD_eq_getElem?_getD, Ne.symm e]
  · intro x
    rw [k.hm x]
    constructor
    · rintro ⟨c, a1, a2, a3, a4⟩
      exact ⟨c, a1, a2, by rw [if_neg (fun e => by rw [e] at a3; omega)]; exact a3, a4⟩
    · rintro ⟨c, a1, a2, a3, a4⟩
      refine ⟨c, a1, a2, ?_, a4⟩
      by_cases e : c = to
      · rw [if_pos e] at a3; omega
      · rwa [if_neg e] at a3
  · intro c h1
    have := k.hz c h1
    rw [if_neg (fun e => by rw [e] at this; omega)]; exact this
/-- None is ahead any more. -/
theorem Kn.push (C : Cls g gp many) (k : Kn g gp many oc ct ah h) {to : Nat} (hto : to < many) (hc : ct to = 1) : Kn g gp many oc (fun c => if c = to then 0 else ct c) (ah.set to 0) (h ++ [fst g gp to]) := by
  have hno : to ∉ oc := fun hm => by have := k.hz to hm; omega
  refine ⟨k.nd, k.lt, by simp [k.len], ?_, ?_, ?_, ?_⟩
  · intro c h1
    by_cases e : c = to
    · subst e; simp [k.len, h1]
    · have := k.ah c h1
      rw [if_neg e, ← this]
      simp [List.getD_eq_getElem?_getD, Ne.symm e]
  · rw [List.nodup_append]
    refine ⟨k.hn, by simp, fun a ha b hb e => ?_⟩
    rw [List.mem_singleton.1 hb] at e
    obtain ⟨c, a1, a2, a3, a4⟩ := (k.hm a).1 ha
    have h1 := (C.fst_mem a1).2
    have h2 := (C.fst_mem hto).2
    rw [← e, a4, h1] at h2
    rw [h2] at a3; omega
  · intro x
    rw [List.mem_append, List.mem_singleton, k.hm x]
    constructor
    · rintro (⟨c, a1, a2, a3, a4⟩ | e)
      · exact ⟨c, a1, a2, by rw [if_neg (fun e => by rw [e] at a3; omega)]; exact a3, a4⟩
      · exact ⟨to, hto, hno, by simp, e⟩
    · rintro ⟨c, a1, a2, a3, a4⟩
      by_cases e : c = to
      · right; rw [← e]; exact a4
      · left; rw [if_neg e] at a3; exact ⟨c, a1, a2, a3, a4⟩
  · intro c h1
    rw [if_neg (fun e : c = to => hno (by rw [← e]; exact h1))]
    exact k.hz c h1

/-- While what the edges of a group lead to is gone through: how many are ahead. -/
def ctp (ks : List (Nat × Nat)) (oc : List Nat) (p : List Nat) (c : Nat) : Nat := cnt ks oc c - if c ∈ p then 1 else 0
theorem ctp_nil (ks : List (Nat × Nat)) (oc : List Nat) (c : Nat) : ctp ks oc [] c = cnt ks oc c := by simp [ctp]
theorem ctp_all {ks : List (Nat × Nat)} (hn : ks.Nodup) {oc : List Nat} {a : Nat} (ha : a ∉ oc) (c : Nat) : ctp ks oc (ld ks a) c = cnt ks (oc ++ [a]) c := by
  rw [ctp, cnt_more hn ha c]; omega
theorem ctp_snoc {ks : List (Nat × Nat)} {oc p : List Nat} {to : Nat} (hp : to ∉ p) (c : Nat) : ctp ks oc (p ++ [to]) c = if c = to then ctp ks oc p to - 1 else ctp ks oc p c := by
  by_cases e : c = to
  · subst e; simp [ctp, hp]
  · simp [ctp, e]
/-- What is gone through next has one ahead at least. -/
theorem ctp_pos {ks : List (Nat × Nat)} (hn : ks.Nodup) {oc p r : List Nat} {a to : Nat} (ha : a ∉ oc) (hl : ld ks a = p ++ to :: r) : to ∉ p ∧ 0 < ctp ks oc p to := by
  have h1 := ld_nodup hn a
  rw [hl] at h1
  have hp : to ∉ p := fun hm => (List.nodup_append.1 h1).2.2 to hm to (by simp) rfl
  refine ⟨hp, ?_⟩
  have h2 := cnt_more hn ha to
  rw [if_pos (by rw [hl]; simp)] at h2
  simp [ctp, hp]; omega

/-- What is known of the loop, at each round. -/
structure Rn (g : G) (gp : Nat → Nat) (many : Nat) (ks : List (Nat × Nat)) (oc ah h : List Nat) (t : Nat) (st : List Bool) (outs : List (List Nat)) : Prop where
  kn : Kn g gp many oc (cnt ks oc) ah h
  sn : ∀ k, k < g.length → (st.getD k false = true ↔ gp k ∈ oc)
  more : many ≤ t + oc.length
  out : outs ++ rest g t st = groups g
  olen : outs.length = oc.length

theorem nodup_len : ∀ (n : Nat) (l : List Nat), l.Nodup → (∀ x ∈ l, x < n) → l.length ≤ n
  | 0, l, _, h => by
    cases l with
    | nil => simp
    | cons a l => have := h a (by simp); omega
  | n + 1, l, hn, h => by
    have h1 := nodup_len n (l.erase n) (hn.erase n) fun x hx => by
      have h2 := hn.mem_erase_iff.1 hx
      have := h x h2.2
      have := h2.1
      omega
    have h2 := List.length_erase (a := n) (l := l)
    by_cases hm : n ∈ l
    · rw [if_pos hm] at h2; omega
    · rw [if_neg hm] at h2; omega

theorem Kn.free_of (C : Cls g gp many) {ks : List (Nat × Nat)} (D : Eds g gp ks) {st : List Bool} (hst : ∀ k, k < g.length → (st.getD k false = true ↔ gp k ∈ oc)) {i : Nat} (hi : i < g.length) : free g st i = true ↔ cnt ks oc (gp i) = 0 := by
  rw [free_iff, cnt_zero]
  constructor
  · intro hf a ha
    obtain ⟨x, y, hE, rfl, h2, h3⟩ := (D.mem a (gp i)).1 ha
    refine Classical.byContradiction fun hno => hf x y ((C.eq hi hE.2.1).2 h2.symm) ?_ ?_ hE
    · rw [← Bool.not_eq_true, C.eq hi hE.1]; exact fun e => h3 e.symm
    · rw [← Bool.not_eq_true, hst x hE.1]; exact hno
  · intro h1 k j h2 h3 h4 hE
    rw [← Bool.not_eq_true, C.eq hi hE.1] at h3
    rw [C.eq hi hE.2.1] at h2
    rw [← Bool.not_eq_true, hst k hE.1] at h4
    exact h4 (h1 (gp k) ((D.mem _ _).2 ⟨k, j, hE, rfl, h2.symm, fun e => h3 e.symm⟩))
/-- None is ready: no more groups. -/
theorem Rn.done (C : Cls g gp many) {ks : List (Nat × Nat)} (D : Eds g gp ks) {t : Nat} {st : List Bool} {outs : List (List Nat)} (r : Rn g gp many ks oc ah [] t st outs) : outs = groups g := by
  have : nextB g st = none := nextB_none fun i hi hs => by
    rw [← Bool.not_eq_true, Kn.free_of C D r.sn hi]
    intro h0
    have := (r.kn.hm (fst g gp (gp i))).2 ⟨gp i, C.lt i hi, by rw [← r.sn i hi, hs]; simp, h0, rfl⟩
    cases this
  have h2 := r.out
  rw [rest_none this] at h2
  simpa using h2
/-- A round: the least one stands next. -/
theorem Rn.round (C : Cls g gp many) {ks : List (Nat × Nat)} (D : Eds g gp ks) {t : Nat} {st : List Bool} {outs : List (List Nat)} {x : Nat} (r : Rn g gp many ks oc ah (x :: h) t st outs) (hx : ∀ y ∈ h, x ≤ y)
    {ah' h' : List Nat} (k' : Kn g gp many (oc ++ [gp x]) (cnt ks (oc ++ [gp x])) ah' h') : Rn g gp many ks (oc ++ [gp x]) ah' h' (t - 1) (stood g st x) (outs ++ [Gr.nd g gp (gp x)]) := by
  obtain ⟨hxn, hcm, hco, hxf, hc0, _⟩ := r.kn.pop C
  have hnext : nextB g st = some x := by
    refine nextB_some hxn ?_ ?_ ?_
    · rw [← Bool.not_eq_true, r.sn x hxn]; exact hco
    · rw [Kn.free_of C D r.sn hxn]; exact hc0
    · rintro j hj ⟨h1, h2⟩
      have hjn : j < g.length := by omega
      rw [Kn.free_of C D r.sn hjn] at h2
      have h3 := (r.kn.hm (fst g gp (gp j))).2 ⟨gp j, C.lt j hjn, by rw [← r.sn j hjn, h1]; simp, h2, rfl⟩
      have h4 : x ≤ fst g gp (gp j) := by
        rcases List.mem_cons.1 h3 with e | h3
        · omega
        · exact hx _ h3
      have := C.fst_le hjn
      omega
  have hlen : oc.length + 1 ≤ many := by
    have := nodup_len many (oc ++ [gp x]) k'.nd k'.lt
    simpa using this
  have hm := r.more
  obtain ⟨t', rfl⟩ : ∃ t', t = t' + 1 := ⟨t - 1, by omega⟩
  refine ⟨k', ?_, by simp; omega, ?_, by simp [r.olen]⟩
  · intro k hk
    rw [stood, tab_get _ _ _ hk, Bool.or_eq_true, r.sn k hk, C.eq hxn hk, List.mem_append, List.mem_singleton, eq_comm (a := gp x)]
  · have := r.out
    rw [rest_some hnext, C.grp hxn] at this
    simpa using this
/-- At the beginning. -/
theorem Rn.start (C : Cls g gp many) {ks : List (Nat × Nat)} (k : Kn g gp many [] (cnt ks []) ah h) : Rn g gp many ks [] ah h g.length (tab g.length fun _ => false) [] :=
  ⟨k, fun j hj => by rw [tab_get _ _ _ hj]; simp, by have := C.le; simpa using this, rfl, rfl⟩
end Gr
end Go.Proofs.Ytemdhbeegheefaa
