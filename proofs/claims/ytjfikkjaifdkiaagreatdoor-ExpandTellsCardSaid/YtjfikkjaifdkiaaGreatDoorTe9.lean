/- Walks and plain laws, 9: The reference's expansion in memory. No condition. The reference's expansion: note, asked, ask, front, burn, come, walked. No condition. The macro layer's reference: what a body is, filled. No condition. The reference's 'word' and 'Lex', walked. The reference's expansion: word, def, walked. No condition. The reference's expansion: include, walked. No condition. -/
import Derived.Test.YtjfikkjaifdkiaaGreatDoorTe8
import Derived.Lib.SlBytesConst
import Derived.Deep.DeepCutAuto
import Derived.Deep.CutBlock
namespace Go.Proofs.YtjfikkjaifdkiaaGreatDoor
open Go.RowKit

structure Wr (M : List (Nat × Obj)) (w : World) (bw : Nat) (vf vin vm vL vR vN : Value) (fs : List Fl) (ps : List (Mac × Value)) (st : Ex.St) : Prop where
  files : Rf w vf fs
  inn : Rt w vin st.inn
  macs : RdM w vm ps
  fst : ps.map Prod.fst = st.macs
  outL : w.ownsRow (bw + 1) 72 2 vL st.outL.length (tcs st.outL)
  reads : w.ownsRow (bw + 1) 9 1 vR st.reads.length (xcs st.reads)
  notes : w.ownsRow (bw + 1) 81 2 vN st.notes.length (tcs st.notes)
  ffar : Far w bw vL vR vN vf fs.length
  ifar : Far w bw vL vR vN vin st.inn.length
  mfar : Far w bw vL vR vN vm ps.length
  bfar : ∀ p ∈ ps, Far w bw vL vR vN p.2 p.1.2.2.length
  mp : ∀ x ∈ M, w.heap[x.1]? = some x.2 ∧ ¬ Own4 bw vL vR vN x.1
theorem Wr.keep {w w' : World} {p : Nat → Prop} {M : List (Nat × Obj)} {bw : Nat} {vf vin vm vL vR vN : Value} {fs : List Fl} {ps : List (Mac × Value)} {st : Ex.St} (h : Wr M w bw vf vin vm vL vR vN fs ps st) (hk : Kw w w' p) (hp : ∀ j, j < w.heap.size → p j → j = bw) : Wr M w' bw vf vin vm vL vR vN fs ps st := by
  have key : ∀ (v : Value) (n : Nat), Far w bw vL vR vN v n → 0 < n → ∀ b, v.ownBlock = some b → ¬ p b := fun v n hf h0 b hb hpb => (hf h0 b hb).2 (.inl (hp b (hf h0 b hb).1 hpb))
  have krow : ∀ {T k n : Nat} {v : Value} {xs : List Value}, w.ownsRow (bw + 1) T k v n xs → ∀ g, v.ownBlock = some g → ¬ p g := fun ho g hg hpg => by
    have h1 := ho.lt g hg
    have := hp g h1.2 hpg
    omega
  exact ⟨Rd.keep h.files hk (key _ _ h.ffar), Rd.keep h.inn hk (key _ _ h.ifar), ⟨Rd.keep h.macs.1 hk (key _ _ h.mfar), fun q hq => ⟨Rd.keep (h.macs.2 q hq).1 hk (key _ _ (h.bfar q hq)), (h.macs.2 q hq).2⟩⟩, h.fst,
    hk.row h.outL (krow h.outL), hk.row h.reads (krow h.reads), hk.row h.notes (krow h.notes), h.ffar.mono hk.size, h.ifar.mono hk.size, h.mfar.mono hk.size, fun q hq => (h.bfar q hq).mono hk.size, fun x hx => ⟨(hk.block x.1 (obj_lt (h.mp x hx).1) fun hpx => (h.mp x hx).2 (.inl (hp _ (obj_lt (h.mp x hx).1) hpx))).trans (h.mp x hx).1, (h.mp x hx).2⟩⟩
theorem Wr.below {w w' : World} {M : List (Nat × Obj)} {bw : Nat} {vf vin vm vL vR vN : Value} {fs : List Fl} {ps : List (Mac × Value)} {st : Ex.St} (h : Wr M w bw vf vin vm vL vR vN fs ps st) (hb : Below w.heap.size w w') : Wr M w' bw vf vin vm vL vR vN fs ps st :=
  h.keep (Kw.of_below hb) fun _ hj hpj => absurd hpj (by omega)
theorem Wr.set {w : World} {M : List (Nat × Obj)} {bw : Nat} {vf vin vm vL vR vN : Value} {fs : List Fl} {ps : List (Mac × Value)} {st : Ex.St} (h : Wr M w bw vf vin vm vL vR vN fs ps st) (i : Nat) (u : Value) : Wr M (w.setCell ⟨bw, i, none⟩ u) bw vf vin vm vL vR vN fs ps st :=
  h.keep (Kw.set w bw i u) fun _ _ hpj => hpj
theorem Wr.setIn {w : World} {M : List (Nat × Obj)} {bw : Nat} {vf vin vin' vm vL vR vN : Value} {fs : List Fl} {ps : List (Mac × Value)} {st : Ex.St} (h : Wr M w bw vf vin vm vL vR vN fs ps st) {l : List Lx.Tok} (hr : Rt w vin' l) (hf : Far w bw vL vR vN vin' l.length) : Wr M w bw vf vin' vm vL vR vN fs ps { st with inn := l } :=
  ⟨h.files, hr, h.macs, h.fst, h.outL, h.reads, h.notes, h.ffar, hf, h.mfar, h.bfar, h.mp⟩
theorem Wr.setMacs {w : World} {M : List (Nat × Obj)} {bw : Nat} {vf vin vm vm' vL vR vN : Value} {fs : List Fl} {ps qs : List (Mac × Value)} {st : Ex.St} (h : Wr M w bw vf vin vm vL vR vN fs ps st) (hr : RdM w vm' qs) (hf : Far w bw vL vR vN vm' qs.length) (hq : ∀ p ∈ qs, Far w bw vL vR vN p.2 p.1.2.2.length) : Wr M w bw vf vin vm' vL vR vN fs qs { st with macs := qs.map Prod.fst } :=
  ⟨h.files, h.inn, hr, rfl, h.outL, h.reads, h.notes, h.ffar, h.ifar, hf, hq, h.mp⟩
/-- One more: outL. -/
theorem Wr.growL {w w9 : World} {M : List (Nat × Obj)} {bw : Nat} {vf vin vm vL vR vN vL' : Value} {fs : List Fl} {ps : List (Mac × Value)} {st : Ex.St} (h : Wr M w bw vf vin vm vL vR vN fs ps st) (x : Lx.Tok) (hk : Kw w w9 fun j => vL.ownBlock = some j) (hn : Near w vL vL')
    (ho : w9.ownsRow (bw + 1) 72 2 vL' (st.outL.length + 1) (tcs st.outL ++ [.int .i64 x.1, .string (S x.2)])) : Wr M w9 bw vf vin vm vL' vR vN fs ps { st with outL := st.outL ++ [x] } := by
  have key : ∀ (v : Value) (n : Nat), Far w bw vL vR vN v n → 0 < n → ∀ b, v.ownBlock = some b → ¬ vL.ownBlock = some b := fun v n hf h0 b hb e => (hf h0 b hb).2 (.inr (.inl e))
  have krow : ∀ {T k n : Nat} {v : Value} {xs : List Value}, w.ownsRow (bw + 1) T k v n xs → T ≠ 72 → ∀ g, v.ownBlock = some g → ¬ vL.ownBlock = some g := fun ho hT g hg e => own_apart2 ho h.outL hT g hg e
  have far : ∀ (v : Value) (n : Nat), Far w bw vL vR vN v n → Far w9 bw vL' vR vN v n := fun v n hf h0 b hb => by
    refine ⟨Nat.lt_of_lt_of_le (hf h0 b hb).1 hk.size, fun e => ?_⟩
    rcases e with e | e | e | e
    · exact (hf h0 b hb).2 (.inl e)
    · rcases hn with h9 | ⟨g, h9, hle⟩
      · exact (hf h0 b hb).2 (.inr (.inl (h9.symm.trans e)))
      · rw [h9] at e; injection e with e; have := (hf h0 b hb).1; omega
    · exact (hf h0 b hb).2 (.inr (.inr (.inl e)))
    · exact (hf h0 b hb).2 (.inr (.inr (.inr e)))
  exact ⟨Rd.keep h.files hk (key _ _ h.ffar), Rd.keep h.inn hk (key _ _ h.ifar), ⟨Rd.keep h.macs.1 hk (key _ _ h.mfar), fun q hq => ⟨Rd.keep (h.macs.2 q hq).1 hk (key _ _ (h.bfar q hq)), (h.macs.2 q hq).2⟩⟩, h.fst,
    (by rw [List.length_append, List.length_singleton, tcs_snoc]; exact ho), hk.row h.reads (krow h.reads (by decide)), hk.row h.notes (krow h.notes (by decide)), far _ _ h.ffar, far _ _ h.ifar, far _ _ h.mfar, fun q hq => far _ _ (h.bfar q hq), fun x hx => ⟨(hk.block x.1 (obj_lt (h.mp x hx).1) fun e => (h.mp x hx).2 (.inr (.inl e))).trans (h.mp x hx).1, (far (.slice (some ⟨x.1, 0, none⟩) 1 1) 1 (fun _ b hb => by
      have e : x.1 = b := by simpa [Value.ownBlock] using hb
      subst e
      exact ⟨obj_lt (h.mp x hx).1, (h.mp x hx).2⟩) (Nat.zero_lt_one) x.1 rfl).2⟩⟩
/-- One more: reads. -/
theorem Wr.growR {w w9 : World} {M : List (Nat × Obj)} {bw : Nat} {vf vin vm vL vR vN vR' : Value} {fs : List Fl} {ps : List (Mac × Value)} {st : Ex.St} (h : Wr M w bw vf vin vm vL vR vN fs ps st) (x : List UInt8) (hk : Kw w w9 fun j => vR.ownBlock = some j) (hn : Near w vR vR')
    (ho : w9.ownsRow (bw + 1) 9 1 vR' (st.reads.length + 1) (xcs st.reads ++ [.string (S x)])) : Wr M w9 bw vf vin vm vL vR' vN fs ps { st with reads := st.reads ++ [x] } := by
  have key : ∀ (v : Value) (n : Nat), Far w bw vL vR vN v n → 0 < n → ∀ b, v.ownBlock = some b → ¬ vR.ownBlock = some b := fun v n hf h0 b hb e => (hf h0 b hb).2 (.inr (.inr (.inl e)))
  have krow : ∀ {T k n : Nat} {v : Value} {xs : List Value}, w.ownsRow (bw + 1) T k v n xs → T ≠ 9 → ∀ g, v.ownBlock = some g → ¬ vR.ownBlock = some g := fun ho hT g hg e => own_apart2 ho h.reads hT g hg e
  have far : ∀ (v : Value) (n : Nat), Far w bw vL vR vN v n → Far w9 bw vL vR' vN v n := fun v n hf h0 b hb => by
    refine ⟨Nat.lt_of_lt_of_le (hf h0 b hb).1 hk.size, fun e => ?_⟩
    rcases e with e | e | e | e
    · exact (hf h0 b hb).2 (.inl e)
    · exact (hf h0 b hb).2 (.inr (.inl e))
    · rcases hn with h9 | ⟨g, h9, hle⟩
      · exact (hf h0 b hb).2 (.inr (.inr (.inl (h9.symm.trans e))))
      · rw [h9] at e; injection e with e; have := (hf h0 b hb).1; omega
    · exact (hf h0 b hb).2 (.inr (.inr (.inr e)))
  exact ⟨Rd.keep h.files hk (key _ _ h.ffar), Rd.keep h.inn hk (key _ _ h.ifar), ⟨Rd.keep h.macs.1 hk (key _ _ h.mfar), fun q hq => ⟨Rd.keep (h.macs.2 q hq).1 hk (key _ _ (h.bfar q hq)), (h.macs.2 q hq).2⟩⟩, h.fst,
    hk.row h.outL (krow h.outL (by decide)), (by rw [List.length_append, List.length_singleton, xcs_snoc]; exact ho), hk.row h.notes (krow h.notes (by decide)), far _ _ h.ffar, far _ _ h.ifar, far _ _ h.mfar, fun q hq => far _ _ (h.bfar q hq), fun x hx => ⟨(hk.block x.1 (obj_lt (h.mp x hx).1) fun e => (h.mp x hx).2 (.inr (.inr (.inl e)))).trans (h.mp x hx).1, (far (.slice (some ⟨x.1, 0, none⟩) 1 1) 1 (fun _ b hb => by
      have e : x.1 = b := by simpa [Value.ownBlock] using hb
      subst e
      exact ⟨obj_lt (h.mp x hx).1, (h.mp x hx).2⟩) (Nat.zero_lt_one) x.1 rfl).2⟩⟩
/-- One more: notes. -/
theorem Wr.growN {w w9 : World} {M : List (Nat × Obj)} {bw : Nat} {vf vin vm vL vR vN vN' : Value} {fs : List Fl} {ps : List (Mac × Value)} {st : Ex.St} (h : Wr M w bw vf vin vm vL vR vN fs ps st) (x : Int × List UInt8) (hk : Kw w w9 fun j => vN.ownBlock = some j) (hn : Near w vN vN')
    (ho : w9.ownsRow (bw + 1) 81 2 vN' (st.notes.length + 1) (tcs st.notes ++ [.int .i64 x.1, .string (S x.2)])) : Wr M w9 bw vf vin vm vL vR vN' fs ps { st with notes := st.notes ++ [x] } := by
  have key : ∀ (v : Value) (n : Nat), Far w bw vL vR vN v n → 0 < n → ∀ b, v.ownBlock = some b → ¬ vN.ownBlock = some b := fun v n hf h0 b hb e => (hf h0 b hb).2 (.inr (.inr (.inr e)))
  have krow : ∀ {T k n : Nat} {v : Value} {xs : List Value}, w.ownsRow (bw + 1) T k v n xs → T ≠ 81 → ∀ g, v.ownBlock = some g → ¬ vN.ownBlock = some g := fun ho hT g hg e => own_apart2 ho h.notes hT g hg e
  have far : ∀ (v : Value) (n : Nat), Far w bw vL vR vN v n → Far w9 bw vL vR vN' v n := fun v n hf h0 b hb => by
    refine ⟨Nat.lt_of_lt_of_le (hf h0 b hb).1 hk.size, fun e => ?_⟩
    rcases e with e | e | e | e
    · exact (hf h0 b hb).2 (.inl e)
    · exact (hf h0 b hb).2 (.inr (.inl e))
    · exact (hf h0 b hb).2 (.inr (.inr (.inl e)))
    · rcases hn with h9 | ⟨g, h9, hle⟩
      · exact (hf h0 b hb).2 (.inr (.inr (.inr (h9.symm.trans e))))
      · rw [h9] at e; injection e with e; have := (hf h0 b hb).1; omega
  exact ⟨Rd.keep h.files hk (key _ _ h.ffar), Rd.keep h.inn hk (key _ _ h.ifar), ⟨Rd.keep h.macs.1 hk (key _ _ h.mfar), fun q hq => ⟨Rd.keep (h.macs.2 q hq).1 hk (key _ _ (h.bfar q hq)), (h.macs.2 q hq).2⟩⟩, h.fst,
    hk.row h.outL (krow h.outL (by decide)), hk.row h.reads (krow h.reads (by decide)), (by rw [List.length_append, List.length_singleton, tcs_snoc]; exact ho), far _ _ h.ffar, far _ _ h.ifar, far _ _ h.mfar, fun q hq => far _ _ (h.bfar q hq), fun x hx => ⟨(hk.block x.1 (obj_lt (h.mp x hx).1) fun e => (h.mp x hx).2 (.inr (.inr (.inr e)))).trans (h.mp x hx).1, (far (.slice (some ⟨x.1, 0, none⟩) 1 1) 1 (fun _ b hb => by
      have e : x.1 = b := by simpa [Value.ownBlock] using hb
      subst e
      exact ⟨obj_lt (h.mp x hx).1, (h.mp x hx).2⟩) (Nat.zero_lt_one) x.1 rfl).2⟩⟩

/-- The whole: its nine cells. -/
def Wx (M : List (Nat × Obj)) (w : World) (bw : Nat) (vf : Value) (fs : List Fl) (most : Nat) (st : Ex.St) : Prop :=
  ∃ (vin vm vL vR vN : Value) (ps : List (Mac × Value)), Ro w bw 69 [vf, vin, vm, .int .i64 (st.fuel : Int), .int .i64 (most : Int), vL, vR, vN, .int .i64 (st.used : Int)] ∧ Wr M w bw vf vin vm vL vR vN fs ps st
theorem Wx.below {w w' : World} {M : List (Nat × Obj)} {bw : Nat} {vf : Value} {fs : List Fl} {most : Nat} {st : Ex.St} (h : Wx M w bw vf fs most st) (hb : Below w.heap.size w w') : Wx M w' bw vf fs most st := by
  obtain ⟨vin, vm, vL, vR, vN, ps, h1, h2⟩ := h
  exact ⟨vin, vm, vL, vR, vN, ps, h1.kw (Kw.of_below hb) (by have := h1.lt; omega), h2.below hb⟩
theorem Wx.lt {w : World} {M : List (Nat × Obj)} {bw : Nat} {vf : Value} {fs : List Fl} {most : Nat} {st : Ex.St} (h : Wx M w bw vf fs most st) : bw < w.heap.size := by
  obtain ⟨vin, vm, vL, vR, vN, ps, h1, h2⟩ := h
  exact h1.lt
/-- What is new lies elsewhere. -/
theorem Wr.fresh {w : World} {M : List (Nat × Obj)} {bw : Nat} {vf vin vm vL vR vN : Value} {fs : List Fl} {ps : List (Mac × Value)} {st : Ex.St} (h : Wr M w bw vf vin vm vL vR vN fs ps st) (hlt : bw < w.heap.size) {b : Nat} (hb : w.heap.size ≤ b) : ¬ Own4 bw vL vR vN b := by
  rintro (e | e | e | e)
  · omega
  · have := (h.outL.lt b e).2; omega
  · have := (h.reads.lt b e).2; omega
  · have := (h.notes.lt b e).2; omega
/-- One block more that stays; one less. -/
theorem Wx.add {w w' : World} {M : List (Nat × Obj)} {bw : Nat} {vf : Value} {fs : List Fl} {most : Nat} {st : Ex.St} (h : Wx M w bw vf fs most st) (hb : Below w.heap.size w w') {b : Nat} {o : Obj} (ho : w'.heap[b]? = some o) (hle : w.heap.size ≤ b) : Wx ((b, o) :: M) w' bw vf fs most st := by
  obtain ⟨vin, vm, vL, vR, vN, ps, h1, h2⟩ := h
  have h3 := h2.below hb
  refine ⟨vin, vm, vL, vR, vN, ps, h1.kw (Kw.of_below hb) (by have := h1.lt; omega), ⟨h3.files, h3.inn, h3.macs, h3.fst, h3.outL, h3.reads, h3.notes, h3.ffar, h3.ifar, h3.mfar, h3.bfar, fun x hx => ?_⟩⟩
  rcases List.mem_cons.1 hx with rfl | hx
  · exact ⟨ho, h2.fresh h1.lt hle⟩
  · exact h3.mp x hx
theorem Wx.less {w : World} {M : List (Nat × Obj)} {x : Nat × Obj} {bw : Nat} {vf : Value} {fs : List Fl} {most : Nat} {st : Ex.St} (h : Wx (x :: M) w bw vf fs most st) : Wx M w bw vf fs most st := by
  obtain ⟨vin, vm, vL, vR, vN, ps, h1, h2⟩ := h
  exact ⟨vin, vm, vL, vR, vN, ps, h1, ⟨h2.files, h2.inn, h2.macs, h2.fst, h2.outL, h2.reads, h2.notes, h2.ffar, h2.ifar, h2.mfar, h2.bfar, fun y hy => h2.mp y (List.mem_cons_of_mem _ hy)⟩⟩
theorem Wx.obj {w : World} {M : List (Nat × Obj)} {bw : Nat} {vf : Value} {fs : List Fl} {most : Nat} {st : Ex.St} (h : Wx M w bw vf fs most st) {x : Nat × Obj} (hx : x ∈ M) : w.heap[x.1]? = some x.2 := by
  obtain ⟨vin, vm, vL, vR, vN, ps, h1, h2⟩ := h
  exact (h2.mp x hx).1
theorem Wx.rest {w : World} {M : List (Nat × Obj)} {bw : Nat} {vf : Value} {fs : List Fl} {most : Nat} {st : Ex.St} (h : Wx M w bw vf fs most st) (h0 : 0 < st.inn.length) {tq : Nat} (htq : tq ≤ st.inn.length) :
    ∃ b o ci, w.cell? ⟨bw, 1, none⟩ = some (.slice (some ⟨b, o, none⟩) st.inn.length ci) ∧ w.frozen? ⟨bw, 1, none⟩ = false ∧ st.inn.length ≤ ci ∧
      Wx M (w.setCell ⟨bw, 1, none⟩ (.slice (if ci = tq then some ⟨b, o, none⟩ else some ⟨b, o + tq * 2, none⟩) (st.inn.length - tq) (ci - tq))) bw vf fs most { st with inn := st.inn.drop tq } := by
  obtain ⟨vin, vm, vL, vR, vN, ps, h1, h2⟩ := h
  rcases h2.inn.2 with ⟨_, h9⟩ | ⟨b, o, ci, hv, hlt, hc, hcap⟩
  · omega
  · subst hv
    refine ⟨b, o, ci, h1.cell (i := 1) rfl, h1.free 1, hcap, ?_⟩
    by_cases hct : ci = tq
    · rw [if_pos hct]
      have hlen : st.inn.length - tq = 0 := by omega
      have hdr : st.inn.drop tq = [] := List.drop_eq_nil_of_le (by omega)
      rw [hdr, hlen]
      exact ⟨_, vm, vL, vR, vN, ps, h1.set 1 _, (h2.setIn (l := []) ⟨rfl, .inl ⟨.inr ⟨_, _, rfl⟩, rfl⟩⟩ fun h0' => absurd h0' (by simp)).set 1 _⟩
    · rw [if_neg hct]
      have hr := Rt.part h2.inn rfl htq (Nat.le_refl _) (ci - tq) (by omega)
      rw [List.take_length] at hr
      refine ⟨_, vm, vL, vR, vN, ps, h1.set 1 _, (h2.setIn (l := st.inn.drop tq) hr fun h0' b' hb' => ?_).set 1 _⟩
      have e : b = b' := by simpa [Value.ownBlock] using hb'
      subst e
      exact h2.ifar h0 b rfl
theorem Wx.tail {w : World} {M : List (Nat × Obj)} {bw : Nat} {vf : Value} {fs : List Fl} {most : Nat} {st : Ex.St} (h : Wx M w bw vf fs most st) (h0 : 0 < st.inn.length) {tq : Nat} (htq : tq ≤ st.inn.length) :
    ∃ b o ci, w.cell? ⟨bw, 1, none⟩ = some (.slice (some ⟨b, o, none⟩) st.inn.length ci) ∧ w.frozen? ⟨bw, 1, none⟩ = false ∧ st.inn.length ≤ ci ∧
      Rt w (.slice (if ci = tq then some ⟨b, o, none⟩ else some ⟨b, o + tq * 2, none⟩) (st.inn.length - tq) (ci - tq)) (st.inn.drop tq) := by
  obtain ⟨vin, vm, vL, vR, vN, ps, h1, h2⟩ := h
  rcases h2.inn.2 with ⟨_, h9⟩ | ⟨b, o, ci, hv, hlt, hc, hcap⟩
  · omega
  · subst hv
    refine ⟨b, o, ci, h1.cell (i := 1) rfl, h1.free 1, hcap, ?_⟩
    by_cases hct : ci = tq
    · rw [if_pos hct]
      have hlen : st.inn.length - tq = 0 := by omega
      have hdr : st.inn.drop tq = [] := List.drop_eq_nil_of_le (by omega)
      rw [hdr, hlen]
      exact ⟨rfl, .inl ⟨.inr ⟨_, _, rfl⟩, rfl⟩⟩
    · rw [if_neg hct]
      have hr := Rt.part h2.inn rfl htq (Nat.le_refl _) (ci - tq) (by omega)
      rw [List.take_length] at hr
      exact hr

theorem Wx.first {M : List (Nat × Obj)} {w : World} {bw : Nat} {vf : Value} {fs : List Fl} {most : Nat} {st : Ex.St} {t : Lx.Tok} {r : List Lx.Tok} (h : Wx M w bw vf fs most st) (hi : st.inn = t :: r) :
    ∃ b o ci, w.cell? ⟨bw, 1, none⟩ = some (.slice (some ⟨b, o, none⟩) (r.length + 1) ci) ∧ w.frozen? ⟨bw, 1, none⟩ = false ∧ r.length + 1 ≤ ci ∧ w.cell? ⟨b, o, none⟩ = some (.int .i64 t.1) ∧ w.cell? ⟨b, o + 1, none⟩ = some (.string (S t.2)) ∧ b < w.heap.size := by
  obtain ⟨vin, vm, vL, vR, vN, ps, h1, h2⟩ := h
  have h3 := h2.inn
  rw [hi] at h3
  rcases h3.2 with ⟨_, h9⟩ | ⟨b, o, ci, hv, hlt, hc, hcap⟩
  · cases h9
  · subst hv
    exact ⟨b, o, ci, h1.cell (i := 1) rfl, h1.free 1, hcap, hc 0 _ rfl, hc 1 _ rfl, hlt (by simp)⟩

/-- What comes next, made anew. -/
theorem Wx.inn_fresh {M : List (Nat × Obj)} {w0 w : World} {bw : Nat} {vf : Value} {fs : List Fl} {most : Nat} {st : Ex.St} (h : Wx M w0 bw vf fs most st) (hb : Below w0.heap.size w0 w) {v : Value} {l : List Lx.Tok} (hr : Rt w v l) (hf : ∀ b, v.ownBlock = some b → w0.heap.size ≤ b ∧ b < w.heap.size) :
    Wx M (w.setCell ⟨bw, 1, none⟩ v) bw vf fs most { st with inn := l } ∧ Below bw w0 (w.setCell ⟨bw, 1, none⟩ v) := by
  have hlt := h.lt
  obtain ⟨vin, vm, vL, vR, vN, ps, h1, h2⟩ := h
  refine ⟨⟨_, vm, vL, vR, vN, ps, (h1.kw (Kw.of_below hb) (by omega)).set 1 _, ((h2.below hb).setIn (l := l) hr fun _ b hbb => ⟨(hf b hbb).2, h2.fresh hlt (hf b hbb).1⟩).set 1 _⟩, ?_⟩
  exact (hb.mono (Nat.le_of_lt hlt)).trans ((Kw.set w bw 1 v).below (fun j e => by omega) (Nat.le_trans (Nat.le_of_lt hlt) hb.size))
end Go.Proofs.YtjfikkjaifdkiaaGreatDoor

namespace Go.Proofs.YtjfikkjaifdkiaaGreatDoor
open Go.RowKit

set_option maxRecDepth 20000 in
set_option maxHeartbeats 4000000 in
/-- The reference's 'note'. -/
theorem note8_any {M : List (Nat × Obj)} {bw : Nat} {vf : Value} {fs : List Fl} {most : Nat} {st : Ex.St} (k : Int) (s : List UInt8) (w : World) (h : Wx M w bw vf fs most st) (hl : st.notes.length ≤ 1000000) :
    Calls Tryz.prog 20 #[.pointer (some ⟨bw, 0, none⟩), .int .i64 k, .string (S s)] w fun e w' => e = .returned (.tuple #[]) ∧ Wx M w' bw vf fs most (Ex.note st k s) ∧ Below bw w w' := by
  have hlt := h.lt
  obtain ⟨vin, vm, vL, vR, vN, ps, h1, h2⟩ := h
  obtain ⟨n, hn⟩ : ∃ n, n = st.notes.length := ⟨_, rfl⟩
  obtain ⟨aN, cN, hvN⟩ := own_shape h2.notes
  subst hvN
  have HBX := Lib.hid h1
  have HWS := Lib.hid h2
  have HN := Lib.hid hn
  have HLT := Lib.hid hlt
  rw [← hn] at h1 hl
  have c7 := h1.cell (i := 7) rfl
  have f7 := h1.free 7
  have hown := h2.notes
  rw [← hn] at hown
  have hbs : bw + 1 ≤ w.heap.size := by omega
  clear h1 h2 hn hlt
  go_enter Tryz.func20, Tryz.ntmps20
  go_wp2_with (first
    | (at_builtin; refine wp_app2 tyNote rfl _ _ rfl (bw + 1) hown rfl rfl rfl rfl tc_one (by omega) (by omega) hbs ?_; intro v7 w7 o7 d7 g7 n7; obtain ⟨a7, c7', h7⟩ := own_shape o7; subst h7; have HO7 := Lib.hid o7; have HK7 := Lib.hid (Kw.of_grown g7); have HN7 := Lib.hid n7; have hbx7 := HBX.out.kw HK7.out (HBX.out.ne_own (by decide) hown); have k7 := hbx7.cell (i := 7) rfl; have kf := hbx7.free 7; clear o7 d7 g7 n7 hbx7)
    | fail)
  go_end0
  have hk7 : Kw w w7 fun j => (Value.slice aN st.notes.length cN).ownBlock = some j := by rw [← HN.out]; exact HK7.out
  refine ⟨rfl, ⟨vin, vm, vL, vR, _, ps, (HBX.out.kw HK7.out (HBX.out.ne_own (by decide) hown)).set 7 _, (HWS.out.growN (k, s) hk7 (by rw [← HN.out]; exact HN7.out) (by rw [← HN.out]; exact HO7.out)).set 7 _⟩, ?_⟩
  have h9 := HK7.out.below (B := bw) (fun j e => by have := (hown.lt j e).1; omega) (Nat.le_of_lt HLT.out)
  exact h9.trans ((Kw.set w7 bw 7 _).below (fun j e => by omega) (Nat.le_trans (Nat.le_of_lt HLT.out) h9.size))

set_option maxRecDepth 20000 in
set_option maxHeartbeats 4000000 in
/-- The reference's 'asked'. -/
theorem asked8_any {M : List (Nat × Obj)} {bw : Nat} {vf : Value} {fs : List Fl} {most : Nat} {st : Ex.St} (name : List UInt8) (w : World) (h : Wx M w bw vf fs most st) (hr : st.reads.length ≤ 1000000) :
    Calls Tryz.prog 43 #[.pointer (some ⟨bw, 0, none⟩), .string (S name)] w fun e w' => e = .returned (.bool (st.reads.contains name)) ∧ w' = w := by
  obtain ⟨vin, vm, vL, vR, vN, ps, h1, h2⟩ := h
  obtain ⟨l, hl⟩ : ∃ l, l = st.reads := ⟨_, rfl⟩
  have ho := h2.reads
  rw [← hl] at ho hr ⊢
  obtain ⟨aR, cR, hvR⟩ := own_shape ho
  subst hvR
  have HR : Hid (Rx w (.slice aR l.length cR) l) := Lib.hid (own_rd ho)
  have HC : Hid (w.cell? ⟨bw, 6, none⟩ = some (.slice aR l.length cR)) := Lib.hid (h1.cell (i := 6) rfl)
  clear h1 h2 ho hl
  go_enter Tryz.func43, Tryz.ntmps43
  go_wp2_with fail
  go_loopw [5] (fun i wr => ∃ k : Nat, k ≤ l.length ∧ i = .int .i64 k ∧ Hid ((l.take k).contains name = false) ∧ wr = w) (fun i _ => l.length - (intOf i).toNat)
  case atStart => exact ⟨0, Nat.zero_le _, rfl, Lib.hid rfl, rfl⟩
  case round =>
    obtain ⟨k, hk, rfl, HK, rfl⟩ := hrel
    have c6 := HC.out
    by_cases hlt : k < l.length
    · obtain ⟨b, o, rfl, ck⟩ := Rx.at HR.out hlt
      obtain ⟨x, hx⟩ : ∃ x, x = l[k] := ⟨_, rfl⟩
      rw [← hx] at ck
      have HX := Lib.hid hx
      clear hx
      cases hq : (x == name)
      · have hn : Hid ((l.take (k + 1)).contains name = false) := Lib.hid (by
          rw [take_snoc l k hlt, List.contains_eq_mem, decide_eq_false_iff_not, List.mem_append, List.mem_singleton]
          rintro (h9 | h9)
          · have := HK.out
            rw [List.contains_eq_mem, decide_eq_false_iff_not] at this
            exact this h9
          · rw [HX.out, ← h9] at hq
            simp at hq)
        go_wp2_with fail
        go_roundw
        case rel => exact ⟨k + 1, by omega, by go_num, hn, trivial⟩
        case measure => simp [intOf]; omega
      · have HT : Hid (l.contains name = true) := Lib.hid (by
          have e : x = name := by simpa using hq
          rw [List.contains_iff_mem, ← e, HX.out]
          exact List.getElem_mem hlt)
        go_wp2_with fail
        go_ret
        exact ⟨by rw [HT.out]; rfl, rfl⟩
    · obtain rfl : k = l.length := by omega
      have HT := HK.out
      rw [List.take_length] at HT
      have HT := Lib.hid HT
      go_wp2_with fail
      go_ret
      exact ⟨by rw [HT.out]; rfl, rfl⟩

set_option maxRecDepth 20000 in
set_option maxHeartbeats 4000000 in
/-- The reference's 'ask'. -/
theorem ask8_any {M : List (Nat × Obj)} {bw : Nat} {vf : Value} {fs : List Fl} {most : Nat} {st : Ex.St} (name : List UInt8) (w : World) (h : Wx M w bw vf fs most st) (hfl : fs.length ≤ 1000000) (hr : st.reads.length ≤ 1000000) :
    Calls Tryz.prog 19 #[.pointer (some ⟨bw, 0, none⟩), .string (S name)] w fun e w' => e = .returned (.tuple #[.string (S (Fi.get fs name).1), .bool (Fi.get fs name).2]) ∧ Wx M w' bw vf fs most (Ex.ask st name) ∧ Below bw w w' := by
  have hlt := h.lt
  have HK := Lib.hid h
  have HC := Lib.hid (asked8_any name w h hr)
  obtain ⟨vin, vm, vL, vR, vN, ps, h1, h2⟩ := h
  obtain ⟨n, hn⟩ : ∃ n, n = st.reads.length := ⟨_, rfl⟩
  obtain ⟨aR, cR, hvR⟩ := own_shape h2.reads
  subst hvR
  obtain ⟨af, cf, hvf⟩ := h2.files.shape
  subst hvf
  have HBX := Lib.hid h1
  have HWS := Lib.hid h2
  have HN := Lib.hid hn
  have HLT := Lib.hid hlt
  have HASK : Hid (st.reads.contains name = true → Ex.ask st name = st) := Lib.hid fun hq => by unfold Ex.ask; rw [if_pos hq]
  have HASK2 : Hid (st.reads.contains name = false → Ex.ask st name = { st with reads := st.reads ++ [name] }) := Lib.hid fun hq => by unfold Ex.ask; rw [if_neg (by rw [hq]; decide)]
  obtain ⟨q, hq⟩ : ∃ q, q = st.reads.contains name := ⟨_, rfl⟩
  rw [← hq] at HC HASK HASK2
  clear hq
  rw [← hn] at h1 hr
  have c6 := h1.cell (i := 6) rfl
  have c0 := h1.cell (i := 0) rfl
  have f6 := h1.free 6
  clear h1
  cases q
  · have HAS := Lib.hid (HASK2.out rfl)
    have hown := h2.reads
    rw [← hn] at hown
    have hbs : bw + 1 ≤ w.heap.size := by omega
    clear h2 hn hlt HASK HASK2
    go_enter Tryz.func19, Tryz.ntmps19
    go_upto_region 3 with (first
      | (go_at_call 43; (with_reducible refine HC.out.mono ?_); rintro e w1 ⟨rfl, rfl⟩)
      | (at_builtin; refine wp_app2 tyStrX rfl _ _ rfl (bw + 1) hown rfl rfl rfl rfl (by intro u hu; simp at hu; rw [hu]; rfl) (by omega) (by omega) hbs ?_; intro v7 w7 o7 d7 g7 n7; obtain ⟨a7, c7, h7⟩ := own_shape o7; subst h7; have HO7 := Lib.hid o7; have HK7 := Lib.hid (Kw.of_grown g7); have HN7 := Lib.hid n7; have hbx7 := HBX.out.kw HK7.out (HBX.out.ne_own (by decide) hown); have k6 := hbx7.cell (i := 6) rfl; have kf := hbx7.free 6; clear o7 d7 g7 n7 hbx7)
      | fail)
    obtain ⟨W3, hW3⟩ : ∃ W3, W3 = w7.setCell ⟨bw, 6, none⟩ (.slice a7 (n + 1) c7) := ⟨_, rfl⟩
    have hk3 : Wx M W3 bw (.slice af fs.length cf) fs most (Ex.ask st name) := by
      rw [hW3, HAS.out]
      have hk7 : Kw w1 w7 fun j => (Value.slice aR st.reads.length cR).ownBlock = some j := by rw [← HN.out]; exact HK7.out
      exact ⟨vin, vm, vL, _, vN, ps, (HBX.out.kw HK7.out (HBX.out.ne_own (by decide) hown)).set 6 _, (HWS.out.growR name hk7 (by rw [← HN.out]; exact HN7.out) (by rw [← HN.out]; exact HO7.out)).set 6 _⟩
    have hb3 : Below bw w1 W3 := by
      rw [hW3]
      have h9 := HK7.out.below (B := bw) (fun j e => by have := (hown.lt j e).1; omega) (Nat.le_of_lt HLT.out)
      exact h9.trans ((Kw.set w7 bw 6 _).below (fun j e => by omega) (Nat.le_trans (Nat.le_of_lt HLT.out) h9.size))
    have HK3 := Lib.hid hk3
    have HB3 := Lib.hid hb3
    have d0 : W3.cell? ⟨bw, 0, none⟩ = some (.slice af fs.length cf) := by
      obtain ⟨_, _, _, _, _, _, hx, _⟩ := hk3
      exact hx.cell (i := 0) rfl
    have HG := Lib.hid (refFget_any (.slice af fs.length cf) fs name W3 (by obtain ⟨_, _, _, _, _, _, _, hx⟩ := hk3; exact hx.files) hfl)
    rw [← hW3]
    clear hW3 hk3 hb3 k6 kf c6 c0 f6 hown hbs hr
    go_wp2_with (go_at_call 44; (with_reducible refine HG.out.mono ?_); rintro e w8 ⟨rfl, b8⟩)
    go_ret2
    exact ⟨rfl, HK3.out.below b8, HB3.out.trans (b8.mono (Nat.le_of_lt HK3.out.lt))⟩
  · have HAS := Lib.hid (HASK.out rfl)
    have HG := Lib.hid (refFget_any (.slice af fs.length cf) fs name w h2.files hfl)
    clear h2 hn hlt HASK HASK2 hr
    go_enter Tryz.func19, Tryz.ntmps19
    go_wp2_with (first
      | (go_at_call 43; (with_reducible refine HC.out.mono ?_); rintro e w1 ⟨rfl, rfl⟩)
      | (go_at_call 44; (with_reducible refine HG.out.mono ?_); rintro e w8 ⟨rfl, b8⟩)
      | fail)
    go_ret2
    refine ⟨rfl, ?_, b8.mono (Nat.le_of_lt HLT.out)⟩
    rw [HAS.out]
    exact HK.out.below b8

set_option maxRecDepth 20000 in
set_option maxHeartbeats 4000000 in
/-- The reference's 'front'. -/
theorem front8_any {M : List (Nat × Obj)} {bw : Nat} {vf vl vr : Value} {fs : List Fl} {most : Nat} {st : Ex.St} (l r : List Lx.Tok) (w : World) (h : Wx M w bw vf fs most st) (hl : Rt w vl l) (hr : Rt w vr r) (hll : l.length ≤ 100000000) (hrl : r.length ≤ 100000000) :
    Calls Tryz.prog 53 #[.pointer (some ⟨bw, 0, none⟩), vl, vr] w fun e w' => e = .returned (.tuple #[]) ∧ Wx M w' bw vf fs most { st with inn := l ++ r } ∧ Below bw w w' := by
  have HK := Lib.hid h
  obtain ⟨al, cl, rfl⟩ := hl.shape
  obtain ⟨ar, cr, rfl⟩ := hr.shape
  have ba : Below w.heap.size w (w.alloc (.cells #[] 72)) := (Below.refl _ _).alloc (Nat.le_refl _) _
  have ho0 := World.ownsRow_made (base := w.heap.size) (e := 72) (size := 2) w #[] 0 (Nat.le_refl _) (Nat.zero_le _) (by simp)
  have hl0 := hl.below' ba
  have HRR := Lib.hid hr
  clear h hl hr
  go_enter Tryz.func53, Tryz.ntmps53
  go_upto_region 1 with (at_builtin; refine wp_app_all tyRef rfl _ _ rfl w.heap.size ho0 hl0 rfl rfl tcs_one (by omega) (by omega) ba.size ?_; intro v3 w3 o3 b3 _)
  have b13 := ba.trans b3
  have hr3 := HRR.out.below' b13
  rw [Nat.zero_add, List.nil_append] at o3
  have hs3 := b13.size
  clear ho0 hl0
  go_upto_region 2 with (at_builtin; refine wp_app_all tyRef rfl _ _ rfl w.heap.size o3 hr3 rfl rfl tcs_one (by omega) (by omega) hs3 ?_; intro v4 w4 o4 b4 _)
  have b14 := b13.trans b4
  have hrt : Rt w4 v4 (l ++ r) := by
    have h9 := own_rd o4
    rw [Rt, tcs_append, List.length_append]
    exact h9
  have HF := Lib.hid (HK.out.inn_fresh b14 hrt fun b hb => o4.lt b hb)
  obtain ⟨vin, vm, vL, vR, vN, ps, h1, h2⟩ := HK.out
  have k1 := (h1.kw (Kw.of_below b14) (by have := h1.lt; omega)).cell (i := 1) rfl
  have kf := (h1.kw (Kw.of_below b14) (by have := h1.lt; omega)).free 1
  obtain ⟨a4, c4, hv4⟩ := own_shape o4
  subst hv4
  clear h1 h2 o3 o4 hrt hr3 b3 b4
  go_wp2_with fail
  go_end0
  exact ⟨rfl, HF.out.1, HF.out.2⟩

set_option maxRecDepth 20000 in
set_option maxHeartbeats 4000000 in
/-- The reference's 'come'. -/
theorem come8_any {M : List (Nat × Obj)} {bw : Nat} {vf vl vr : Value} {fs : List Fl} {most : Nat} {st : Ex.St} (name : List UInt8) (l : List Lx.Tok) (w : World) (h : Wx M w bw vf fs most st) (hl : Rt w vl l) (hr : Rt w vr st.inn) (hll : l.length ≤ 100000000) (hrl : st.inn.length ≤ 100000000) (hnl : st.notes.length ≤ 1000000) :
    Calls Tryz.prog 91 #[.pointer (some ⟨bw, 0, none⟩), .string (S name), vl, vr] w fun e w' => e = .returned (.tuple #[]) ∧ Wx M w' bw vf fs most (Ex.come most st name l) ∧ Below bw w w' := by
  have HN := Lib.hid (note8_any 3 name w h hnl)
  have HF := Lib.hid (front8_any l st.inn w h hl hr hll hrl)
  obtain ⟨al, cl, rfl⟩ := hl.shape
  obtain ⟨ar, cr, rfl⟩ := hr.shape
  have c4 : w.cell? ⟨bw, 4, none⟩ = some (.int .i64 (most : Int)) := by
    obtain ⟨vin, vm, vL, vR, vN, ps, h1, h2⟩ := h
    exact h1.cell (i := 4) rfl
  clear h hl hr
  by_cases hc : most < l.length + st.inn.length
  · have HE : Hid (Ex.come most st name l = Ex.note st 3 name) := Lib.hid (by unfold Ex.come; rw [if_pos hc])
    obtain ⟨m, hm⟩ : ∃ m, m = st.inn.length := ⟨_, rfl⟩
    rw [← hm] at hc hrl HF ⊢
    have l1 : (most : Int) < (l.length : Int) + (m : Int) := by omega
    clear HF hm hc
    go_enter Tryz.func91, Tryz.ntmps91
    go_wp2_with (go_at_call 20; (with_reducible refine HN.out.mono ?_); rintro e w1 ⟨rfl, k1, b1⟩)
    refine bodyPost_ret (results_none rfl _ _ _) rfl ⟨rfl, by rw [HE.out]; exact k1, b1⟩
  · have HE : Hid (Ex.come most st name l = { st with inn := l ++ st.inn }) := Lib.hid (by unfold Ex.come; rw [if_neg hc])
    rw [HE.out]
    obtain ⟨stI, hI⟩ : ∃ s, s = ({ st with inn := l ++ st.inn } : Ex.St) := ⟨_, rfl⟩
    rw [← hI] at HF ⊢
    obtain ⟨m, hm⟩ : ∃ m, m = st.inn.length := ⟨_, rfl⟩
    rw [← hm] at hc hrl HF ⊢
    have l1 : ¬ (most : Int) < (l.length : Int) + (m : Int) := by omega
    clear HN hm hc hI HE
    go_enter Tryz.func91, Tryz.ntmps91
    go_wp2_with (go_at_call 53; (with_reducible refine HF.out.mono ?_); rintro e w1 ⟨rfl, k1, b1⟩)
    go_end0
    exact ⟨rfl, k1, b1⟩

set_option maxRecDepth 20000 in
set_option maxHeartbeats 4000000 in
/-- The reference's 'burn'. -/
theorem burn8_any {M : List (Nat × Obj)} {bw : Nat} {vf : Value} {fs : List Fl} {most : Nat} {st : Ex.St} (name : List UInt8) (w : World) (h : Wx M w bw vf fs most st) (hnl : st.notes.length ≤ 1000000) (hfu : st.fuel ≤ 1000000) (hus : st.used ≤ 1000000) :
    Calls Tryz.prog 90 #[.pointer (some ⟨bw, 0, none⟩), .string (S name)] w fun e w' => e = .returned (.bool (decide (st.fuel ≠ 0))) ∧ Wx M w' bw vf fs most (if st.fuel = 0 then Ex.note st 9 name else Ex.burnt st) ∧ Below bw w w' ∧ (st.fuel ≠ 0 → Kw w w' fun j => j = bw) := by
  have HN := Lib.hid (note8_any 9 name w h hnl)
  have hlt := h.lt
  obtain ⟨vin, vm, vL, vR, vN, ps, h1, h2⟩ := h
  have c3 := h1.cell (i := 3) rfl
  have c8 := h1.cell (i := 8) rfl
  have f3 := h1.free 3
  have f8 := h1.free 8
  have g8 := (h1.set 3 (.int .i64 ((st.fuel : Int) - 1))).cell (i := 8) rfl
  have k8 := (h1.set 3 (.int .i64 ((st.fuel : Int) - 1))).free 8
  have HBX := Lib.hid h1
  have HWS := Lib.hid h2
  have HLT := Lib.hid hlt
  clear h1 h2 hlt
  by_cases h0 : st.fuel = 0
  · rw [if_pos h0]
    have HD : Hid (decide (st.fuel ≠ 0) = false) := Lib.hid (by simp [h0])
    rw [h0] at c3
    clear g8 k8
    go_enter Tryz.func90, Tryz.ntmps90
    go_wp2_with (go_at_call 20; (with_reducible refine HN.out.mono ?_); rintro e w1 ⟨rfl, k1, b1⟩)
    go_ret
    exact ⟨by rw [HD.out]; rfl, k1, b1, fun h9 => absurd h0 h9⟩
  · rw [if_neg h0]
    have HD : Hid (decide (st.fuel ≠ 0) = true) := Lib.hid (by simp [h0])
    have HB : Hid (Ex.burnt st = { st with fuel := st.fuel - 1, used := st.used + 1 }) := Lib.hid rfl
    obtain ⟨f, hf⟩ : ∃ f, f = st.fuel := ⟨_, rfl⟩
    obtain ⟨u, hu⟩ : ∃ u, u = st.used := ⟨_, rfl⟩
    rw [← hf] at c3 h0 hfu g8 k8 HBX HB HD ⊢
    rw [← hu] at c8 hus g8 HBX HB
    have e1 : (f : Int) - 1 = ((f - 1 : Nat) : Int) := by omega
    have e2 : ((f : Int) == 0) = false := by rw [beq_eq_false_iff_ne]; omega
    have HF1 := Lib.hid e1
    clear HN hf hu h0 e1
    go_enter Tryz.func90, Tryz.ntmps90
    go_wp2_with fail
    go_ret
    refine ⟨by rw [HD.out]; rfl, ?_, ((Kw.set w bw 3 _).trans (Kw.set _ bw 8 _) fun _ _ e => e).below (fun j e => by omega) (Nat.le_of_lt HLT.out), fun _ => (Kw.set w bw 3 _).trans (Kw.set _ bw 8 _) fun _ _ e => e⟩
    rw [HB.out]
    have h9 := (HWS.out.set 3 (.int .i64 ((f : Int) - 1))).set 8 (.int .i64 ((u : Int) + 1))
    refine ⟨vin, vm, vL, vR, vN, ps, ?_, ⟨h9.files, h9.inn, h9.macs, h9.fst, h9.outL, h9.reads, h9.notes, h9.ffar, h9.ifar, h9.mfar, h9.bfar, h9.mp⟩⟩
    have h8 := (HBX.out.set 3 (.int .i64 ((f : Int) - 1))).set 8 (.int .i64 ((u : Int) + 1))
    simp only [List.set_cons_succ, List.set_cons_zero] at h8
    show Ro _ bw _ [vf, vin, vm, .int .i64 ((f - 1 : Nat) : Int), .int .i64 (most : Int), vL, vR, vN, .int .i64 ((u + 1 : Nat) : Int)]
    rw [← HF1.out, show ((u + 1 : Nat) : Int) = (u : Int) + 1 by omega]
    exact h8
end Go.Proofs.YtjfikkjaifdkiaaGreatDoor

namespace Go.Proofs.YtjfikkjaifdkiaaGreatDoor
open Go.RowKit

theorem argAt_step {ls : List (List Lx.Tok)} {q : Int} {m : Nat} (hm : m < ls.length) : Mx.argAt ls q (m + 1) = Mx.argAt ls q m ++ (if q = m then ls[m] else []) := by
  unfold Mx.argAt
  by_cases h : q = m
  · subst h
    rw [if_pos (by omega), if_neg (by omega), if_pos rfl]
    simp [List.getD, hm]
  · rw [if_neg h, List.append_nil]
    by_cases h2 : 0 ≤ q ∧ q < (m : Int)
    · rw [if_pos (by omega), if_pos h2]
    · rw [if_neg (by omega), if_neg h2]

/-- Is a text the digit of this place? -/
theorem place_is (s : List UInt8) (m : Nat) (hm : m < 9) : (s == [UInt8.ofNat (49 + m)]) = decide (Mx.placeI s = m) := by
  have e : (UInt8.ofNat (49 + m)).toNat = 49 + m := by simp; omega
  rw [Bool.eq_iff_iff, beq_iff_eq, decide_eq_true_eq]
  match s with
  | [] => simp [Mx.placeI]; try omega
  | [c] =>
    simp only [Mx.placeI, List.cons.injEq, and_true, ← UInt8.toNat_inj, e]
    omega
  | a :: b :: r => simp [Mx.placeI]; try omega

theorem conv_digit (w : World) (m : Nat) (hm : m < 9) : (convert 118 9 (.slice (some ⟨w.heap.size, 0, none⟩) 1 1)).run Tryz.prog (w.alloc (.cells #[.int .u8 (49 + (m : Int))] 5)) = .ok (.string (S [UInt8.ofNat (49 + m)])) (w.alloc (.cells #[.int .u8 (49 + (m : Int))] 5)) := by
  refine conv_bytes (l := [UInt8.ofNat (49 + m)]) ⟨rfl, .inr ⟨w.heap.size, 0, 1, rfl, fun _ => by simp, fun j u hj => ?_, by simp⟩⟩
  rw [Nat.zero_add, cell_of_row _ w.heap.size _ _ 5 (0, 0) (heap_alloc_new w _)]
  have e : (((UInt8.ofNat (49 + m)).toNat : Nat) : Int) = 49 + (m : Int) := by simp; omega
  simp only [Lib.byteCells, List.map_cons, List.map_nil, e] at hj
  simpa using hj

set_option maxRecDepth 20000 in
set_option maxHeartbeats 1600000 in
/-- The reference's 'Fill', of at most nine lists. -/
theorem refFill_any (v va : Value) (l : List Lx.Tok) (ls : List (List Lx.Tok)) (w : World) (hl : Rt w v l) (ha : Rts w va ls) (hlen : l.length ≤ 100000) (hls : ls.length ≤ 9) (hs : ∀ l ∈ ls, l.length ≤ 100000) :
    Calls Tryz.prog 92 #[v, va] w fun e w' => ∃ v', e = .returned v' ∧ w'.ownsRow w.heap.size 72 2 v' (Mx.fill ls l).length (tcs (Mx.fill ls l)) ∧ Below w.heap.size w w' := by
  obtain ⟨a0, c0, rfl⟩ := hl.shape
  obtain ⟨a1, c1, rfl⟩ := ha.shape
  have HL := Lib.hid hl
  have HA := Lib.hid ha
  clear hl ha
  go_enter Tryz.func92, Tryz.ntmps92
  go_wp2_with fail
  go_loopw [5, 6] (fun v i wr => ∃ (k : Nat) (acc : List Lx.Tok), k ≤ l.length ∧ i = .int .i64 k ∧ Hid (acc = Mx.fill ls (l.take k)) ∧ acc.length ≤ k * 100001 ∧ wr.ownsRow w.heap.size 72 2 v acc.length (tcs acc) ∧ Below w.heap.size w wr) (fun _ i _ => l.length - (intOf i).toNat)
  case atStart => exact ⟨0, [], Nat.zero_le _, rfl, rfl, Nat.zero_le _, World.ownsRow_made w #[] 0 (Nat.le_refl _) (by decide) rfl, (Below.refl _ _).alloc (Nat.le_refl _) _⟩
  case round =>
    obtain ⟨k, acc, hk, rfl, HC, hal, hown, hbw⟩ := hrel
    have hsz := hbw.size
    by_cases hlt : k < l.length
    · obtain ⟨b1, o1, rfl, c10, c11⟩ := (HL.out.below' hbw).at hlt
      obtain ⟨z, s, hzs⟩ : ∃ z s, l[k] = (z, s) := ⟨_, _, rfl⟩
      have HN := Lib.hid (show acc ++ Mx.fillOne ls (z, s) = Mx.fill ls (l.take (k + 1)) by rw [fill_take hlt, ← HC.out, hzs])
      rw [hzs] at c10 c11
      clear hzs
      cases h7 : (z != 7)
      · have hz7 : z = 7 := by simpa [bne] using h7
        subst hz7
        go_wp2_with fail
        have hown2 := hown.alloc (.cells #[.int .i64 7, .string (S s)] 72)
        have ht2 := heap_alloc_new wr (.cells #[.int .i64 7, .string (S s)] 72)
        have hbw2 := hbw.alloc hsz (.cells #[.int .i64 7, .string (S s)] 72)
        obtain ⟨q, hq⟩ : ∃ q, q = Mx.placeI s := ⟨_, rfl⟩
        have HF := Lib.hid (show Mx.fillOne ls (7, s) = Mx.argAt ls q ls.length by rw [Mx.fillOne, if_pos rfl, hq])
        have HP := Lib.hid hq
        clear hq
        have hun : ∀ b, u5.ownBlock = some b → b < wr.heap.size := fun b hb => (hown.lt b hb).2
        go_loopw [5, 8] (fun v j wr2 => ∃ m : Nat, m ≤ ls.length ∧ j = .int .i64 m ∧ wr2.ownsRow w.heap.size 72 2 v (acc ++ Mx.argAt ls q m).length (tcs (acc ++ Mx.argAt ls q m)) ∧ v.ownBlock ≠ some wr.heap.size ∧ wr2.heap[wr.heap.size]? = some (.cells #[.int .i64 7, .string (S s)] 72 (0, 0)) ∧ Below w.heap.size w wr2) (fun _ j _ => ls.length - (intOf j).toNat)
        case atStart => exact ⟨0, Nat.zero_le _, rfl, by rw [show Mx.argAt ls q (0 : Nat) = [] from if_neg (by omega), List.append_nil]; exact hown2, fun e => by have := hun _ e; omega, ht2, hbw2⟩
        case round =>
          obtain ⟨m, hm, rfl, hown3, hne, ht3, hbw3⟩ := hrel
          have hal3 : (acc ++ Mx.argAt ls q m).length ≤ acc.length + 100000 := by
            rw [List.length_append]; unfold Mx.argAt; split
            · have := getD_le hs q.toNat; omega
            · simp
          by_cases hml : m < ls.length
          · have hm9 : m < 9 := by omega
            have c5 : wr.cell? ⟨_, 1, none⟩ = some (.string (S s)) := row_cell ht3 1
            obtain ⟨b3, o3, u, rfl, c30, r3, _, k3⟩ := (HA.out.below' hbw3).at hml
            have HI := Lib.hid (place_is s m hm9)
            have HA2 := Lib.hid (argAt_step (q := q) hml)
            have hlm := hs _ (List.getElem_mem hml)
            obtain ⟨au, cu, rfl⟩ := r3.shape
            have hcv := conv_digit wr m hm9
            have hw : IntKind.u8.wrap (49 + (m : Int)) = 49 + (m : Int) := by
              have : m = 0 ∨ m = 1 ∨ m = 2 ∨ m = 3 ∨ m = 4 ∨ m = 5 ∨ m = 6 ∨ m = 7 ∨ m = 8 := by omega
              rcases this with rfl | rfl | rfl | rfl | rfl | rfl | rfl | rfl | rfl <;> rfl
            obtain ⟨c, hc⟩ : ∃ c, c = UInt8.ofNat (49 + m) := ⟨_, rfl⟩
            rw [← hc] at hcv HI
            clear hc
            have hr4 := Rt.below' r3 ((Below.refl wr.heap.size wr).alloc (Nat.le_refl _) (.cells #[.int .u8 (49 + (m : Int))] 5))
            have hown4 := hown3.alloc (.cells #[.int .u8 (49 + (m : Int))] 5)
            have hbw4 := hbw3.alloc hbw3.size (.cells #[.int .u8 (49 + (m : Int))] 5)
            have ht4 := (Below.heap_alloc wr (.cells #[.int .u8 (49 + (m : Int))] 5) _ (row_lt ht3)).trans ht3
            have c9 := c30
            cases hx : (s == [c])
            · have hq : ¬ q = (m : Int) := by have := HI.out; rw [hx, ← HP.out] at this; simpa using this.symm
              have HZ := Lib.hid (show acc ++ Mx.argAt ls q m = acc ++ Mx.argAt ls q (m + 1 : Nat) by rw [show ((m + 1 : Nat) : Nat) = m + 1 from rfl, HA2.out, if_neg hq, List.append_nil])
              clear hq
              go_wp2_with fail
              go_roundw
              case rel => exact ⟨m + 1, by omega, by go_num, (by rw [← HZ.out]; exact hown4), hne, ht4, hbw4⟩
              case measure => simp [intOf]; omega
            · have hq : q = (m : Int) := by have := HI.out; rw [hx, ← HP.out] at this; simpa using this.symm
              have HZ := Lib.hid (show acc ++ Mx.argAt ls q m ++ ls[m] = acc ++ Mx.argAt ls q (m + 1 : Nat) by rw [show ((m + 1 : Nat) : Nat) = m + 1 from rfl, HA2.out, if_pos hq, List.append_assoc])
              clear hq
              go_wp2_with (at_builtin; go_loud (refine wp_app_all2 tyRef rfl _ _ rfl w.heap.size hown4 hr4 rfl rfl tcs_one (by omega) (by omega) hbw4.size ?_); intro v5 w5 hown5 b5 hg5 hnear)
              go_roundw
              case rel => exact ⟨m + 1, by omega, by go_num, (by rw [← HZ.out, tcs_append, List.length_append]; exact hown5), fun e => by
                rcases hnear with h | ⟨g, h, hle⟩
                · exact hne (h.symm.trans e)
                · rw [h] at e; cases e; have := row_lt ht3; simp at hle; omega, (hg5.block _ (row_lt ht4) (fun e => hne e.symm)).trans ht4, hbw4.trans b5⟩
              case measure => simp [intOf]; omega
          · obtain rfl : m = ls.length := by omega
            have HX := Lib.hid (show acc ++ Mx.argAt ls q ls.length = Mx.fill ls (l.take (k + 1)) by rw [← HF.out]; exact HN.out)
            go_wp2_with fail
            go_roundw
            case rel => exact ⟨k + 1, acc ++ Mx.argAt ls q ls.length, by omega, by go_num, HX, by omega, hown3, hbw3⟩
            case measure => simp [intOf]; omega
      · have HF := Lib.hid (show Mx.fillOne ls (z, s) = [(z, s)] by rw [Mx.fillOne, if_neg (by simpa [bne] using h7)])
        have hown2 := hown.alloc (.cells #[.int .i64 z, .string (S s)] 72)
        go_wp2_with (at_builtin; refine wp_app tyRef rfl _ _ rfl w.heap.size hown2 rfl rfl (by simp) rfl tc_one (by omega) (by omega) (by simp; omega) ?_; intro v3 w3 hown3 b3 _)
        go_roundw
        case rel => exact ⟨k + 1, acc ++ [(z, s)], by omega, by go_num, Lib.hid (by rw [← HN.out, HF.out]), by simp; omega, (by rw [tcs_snoc, List.length_append]; exact hown3), (hbw.alloc hsz _).trans b3⟩
        case measure => simp [intOf]; omega
    · obtain rfl : k = l.length := by omega
      have HE := Lib.hid (HC.out.trans (by rw [List.take_length]))
      go_wp2_with fail
      go_ret
      exact ⟨_, rfl, by rw [← HE.out]; exact hown, hbw⟩

end Go.Proofs.YtjfikkjaifdkiaaGreatDoor

namespace Go.Proofs.YtjfikkjaifdkiaaGreatDoor
open Go.RowKit

set_option maxHeartbeats 400000 in
/-- The reference's 'word'. -/
theorem refWord_any (l : List UInt8) (k : Nat) (hk : k < l.length) (hl : l.length ≤ 1000000000000) (w : World) :
    Calls Tryz.prog 46 #[.string (S l), .int .i64 (k : Int)] w fun e w' =>
      ∃ e1 : Nat, e = .returned (.tuple #[.agg #[.int .i64 1, .string (S (Lx.word (l.drop k)).1)], .int .i64 e1]) ∧ e1 ≤ l.length ∧ l.drop e1 = (Lx.word (l.drop k)).2 ∧ Below w.heap.size w w' := by
  go_enter Tryz.func46, Tryz.ntmps46
  go_wp2_with fail
  go_loop [1, 6] (fun i v => ∃ (j : Nat) (acc : List UInt8), k ≤ j ∧ j ≤ l.length ∧ acc.length ≤ j ∧ i = .int .i64 j ∧ v = .string (S acc) ∧ Hid (acc ++ (Lx.word (l.drop j)).1 = (Lx.word (l.drop k)).1 ∧ (Lx.word (l.drop j)).2 = (Lx.word (l.drop k)).2)) (fun i _ => l.length - (intOf i).toNat)
  case atStart => exact ⟨k, [], by omega, by omega, by simp, rfl, rfl, by simp [Hid]⟩
  case round =>
    obtain ⟨j, acc, hkj, hj, hacc, rfl, rfl, HG⟩ := hrel
    by_cases hlt : j < l.length
    · have HC : Hid (l.drop j = l[j] :: l.drop (j + 1)) := drop_at hlt
      by_cases hk1 : Lx.kind (l.drop j) = 1
      · by_cases hesc : l[j] = 92 ∧ j + 1 < l.length
        · obtain ⟨h92, hj1⟩ := hesc
          have hrel : Hid ((acc ++ [l[j + 1]]) ++ (Lx.word (l.drop (j + 1 + 1))).1 = (Lx.word (l.drop k)).1 ∧ (Lx.word (l.drop (j + 1 + 1))).2 = (Lx.word (l.drop k)).2) := by
            have h := HG.out
            have hk1' := hk1
            rw [HC.out, drop_at hj1, h92] at h hk1'
            rw [Lx.word_esc hk1'] at h
            exact ⟨by rw [← h.1]; simp, h.2⟩
          go_wp2_with (first | (go_at_call 45; (with_reducible refine (refKind_any _ _ (by omega) hl _).mono ?_); rintro e w' ⟨rfl, rfl⟩) | fail)
          go_round
          case rel => exact ⟨j + 1 + 1, acc ++ [l[j + 1]], by omega, by omega, by simp; omega, by go_num, by simp [go_sem], hrel⟩
          case measure => simp [intOf]; omega
        · have hrel : Hid ((acc ++ [l[j]]) ++ (Lx.word (l.drop (j + 1))).1 = (Lx.word (l.drop k)).1 ∧ (Lx.word (l.drop (j + 1))).2 = (Lx.word (l.drop k)).2) := by
            have h := HG.out
            have hk1' := hk1
            rw [HC.out] at h hk1'
            rw [Lx.word_one hk1' (by
              by_cases h92 : l[j] = 92
              · exact .inr (List.drop_eq_nil_of_le (by have h := hesc; simp only [h92, true_and] at h; omega))
              · exact .inl h92)] at h
            exact ⟨by rw [← h.1]; simp, h.2⟩
          have HE := Lib.hid hesc
          clear hesc
          by_cases h92 : l[j] = 92
          · have hj1 : ¬ (j : Int) + 1 < (l.length : Int) := fun h => HE.out ⟨h92, by omega⟩
            go_wp2_with (first | (go_at_call 45; (with_reducible refine (refKind_any _ _ (by omega) hl _).mono ?_); rintro e w' ⟨rfl, rfl⟩) | fail)
            go_round
            case rel => exact ⟨j + 1, acc ++ [l[j]], by omega, by omega, by simp; omega, by go_num, by simp [go_sem, h92], hrel⟩
            case measure => simp [intOf]; omega
          · have h92' : (l[j] == 92) = false := by simpa using h92
            clear h92
            go_wp2_with (first | (go_at_call 45; (with_reducible refine (refKind_any _ _ (by omega) hl _).mono ?_); rintro e w' ⟨rfl, rfl⟩) | fail)
            go_round
            case rel => exact ⟨j + 1, acc ++ [l[j]], by omega, by omega, by simp; omega, by go_num, by simp [go_sem], hrel⟩
            case measure => simp [intOf]; omega
      · have hk1' : (Lx.kind (l.drop j) == 1) = false := by simpa using hk1
        have hx : Lx.word (l.drop j) = ([], l.drop j) := by
          rw [HC.out] at hk1 ⊢; exact Lx.word_stop hk1
        have HX : Hid (acc = (Lx.word (l.drop k)).1 ∧ l.drop j = (Lx.word (l.drop k)).2) := by
          have h := HG.out; rw [hx] at h; exact ⟨by simpa using h.1, h.2⟩
        clear hk1 hx
        go_wp2_with (first | (go_at_call 45; (with_reducible refine (refKind_any _ _ (by omega) hl _).mono ?_); rintro e w' ⟨rfl, rfl⟩) | fail)
        refine bodyPost_ret (v := .tuple #[.agg #[.int .i64 1, .string (S acc)], .int .i64 j]) (by simp [results, Tryz.results46, go_sem]) rfl ⟨j, by rw [HX.out.1], hj, HX.out.2, ?_⟩
        exact (Below.refl _ _).alloc (Nat.le_refl _) _
    · obtain rfl : j = l.length := by omega
      have HX : Hid (acc = (Lx.word (l.drop k)).1 ∧ [] = (Lx.word (l.drop k)).2) := by
        have h := HG.out; rw [List.drop_length] at h; exact ⟨by simpa [Lx.word] using h.1, h.2⟩
      go_wp2_with fail
      refine bodyPost_ret (v := .tuple #[.agg #[.int .i64 1, .string (S acc)], .int .i64 l.length]) (by simp [results, Tryz.results46, go_sem]) rfl ⟨l.length, by rw [HX.out.1], hj, by rw [← HX.out.2, List.drop_length], ?_⟩
      exact (Below.refl _ _).alloc (Nat.le_refl _) _

/-- A round's world: the token in a block of its own. -/
def TokAt (W : World) (g : Nat) (t : Lx.Tok) : Prop := W.heap[g]? = some (.cells #[.int .i64 t.1, .string (S t.2)] 72 (0, 0))

set_option maxHeartbeats 800000 in
/-- The reference's 'Lex'. -/
theorem refLex_any (l : List UInt8) (hl : l.length ≤ 1000000000) (w : World) :
    Calls Tryz.prog 21 #[.string (S l)] w fun e w' =>
      ∃ v', e = .returned v' ∧ w'.ownsRow w.heap.size 72 2 v' (Lx.lex l).length (tcs (Lx.lex l)) ∧ Below w.heap.size w w' := by
  go_enter Tryz.func21, Tryz.ntmps21
  go_wp2_with fail
  go_loopw [3, 4] (fun v i wr => ∃ (j : Nat) (acc : List Lx.Tok), j ≤ l.length ∧ acc.length ≤ j ∧ i = .int .i64 j ∧ wr.ownsRow w.heap.size 72 2 v acc.length (tcs acc) ∧ Hid (acc ++ Lx.lex (l.drop j) = Lx.lex l) ∧ Below w.heap.size w wr) (fun _ i _ => l.length - (intOf i).toNat)
  case atStart => exact ⟨0, [], by omega, by simp, rfl, World.ownsRow_made w #[] 0 (Nat.le_refl _) (by decide) rfl, rfl, (Below.refl _ _).alloc (Nat.le_refl _) _⟩
  case round =>
    obtain ⟨j, acc, hj, hacc, rfl, hown, HG, hbw⟩ := hrel
    have hsz := hbw.size
    by_cases hlt : j < l.length
    · have hlen1 : (Lx.one (l.drop j)).2.length ≤ (l.drop (j + 1)).length := by have := Lx.one_lt l[j] (l.drop (j + 1)); rwa [← drop_at hlt] at this
      have hlex : Lx.lex (l.drop j) = (Lx.one (l.drop j)).1 :: Lx.lex (Lx.one (l.drop j)).2 := Lx.lex_ne (by rw [drop_at hlt]; exact List.cons_ne_nil _ _)
      have HLEN := Lib.hid hlen1
      have HLEX := Lib.hid hlex
      clear hlen1 hlex
      go_upto_block 2 with (first | (go_at_call 45; (with_reducible refine (refKind_any _ _ (by omega) (by omega) _).mono ?_); rintro e w' ⟨rfl, rfl⟩) | fail)
      go_cut [7] (fun u W => ∃ e1 : Nat, u = .int .i64 e1 ∧ e1 ≤ l.length ∧ Hid (l.drop e1 = (Lx.one (l.drop j)).2) ∧ TokAt W wr.heap.size (Lx.one (l.drop j)).1 ∧ Below wr.heap.size wr W)
      case first =>
        have hkc : Lx.kind (l.drop j) = 2 ∨ Lx.kind (l.drop j) = 4 ∨ Lx.kind (l.drop j) = 5 ∨ Lx.kind (l.drop j) = 6 ∨ Lx.kind (l.drop j) = 7 ∨ Lx.kind (l.drop j) = 1 := by rw [drop_at hlt]; exact Lx.kind_cases _ _
        have HC : Hid (l.drop j = l[j] :: l.drop (j + 1)) := drop_at hlt
        have hg : ∀ (W : World), Below (wr.alloc (.cells #[.int .i64 (Lx.kind (l.drop j)), .string (S [])] 72)).heap.size (wr.alloc (.cells #[.int .i64 (Lx.kind (l.drop j)), .string (S [])] 72)) W → Hid (W.heap[wr.heap.size]? = some (.cells #[.int .i64 (Lx.kind (l.drop j)), .string (S [])] 72 (0, 0)) ∧ Below wr.heap.size wr W) := fun W h =>
          ⟨(h.block _ (by simp)).trans (heap_alloc_new _ _), ((Below.refl _ _).alloc (Nat.le_refl _) _).trans (h.mono (by simp))⟩
        have HGW := Lib.hid hg
        clear hg
        rcases hkc with hk | hk | hk | hk | hk | hk
        · have t1 : (Lx.kind (l.drop j) == 1) = false := by rw [hk]; rfl
          have t2 : (Lx.kind (l.drop j) == 2) = true := by rw [hk]; rfl
          have HO := Lib.hid (Lx.one_k2 hk)
          clear hk
          go_wp2_with (first | (go_at_call 47; (with_reducible refine (refGap_any _ _ hlt (by omega) _).mono ?_); rintro e w1 ⟨e1, rfl, he1, hd1, hb1⟩; have HW := HGW.out _ hb1; have q0 := pair_cell0 HW.out.1; have q1 := pair_cell1 HW.out.1; have f0 := pair_free HW.out.1 0; have f1 := pair_free HW.out.1 1; have HD1 := Lib.hid hd1; clear hd1 hb1) | fail)
          go_meet
          exact ⟨e1, rfl, he1, by show _ = _; rw [HO.out]; exact HD1.out, by show _ = _; rw [HO.out]; exact pair_set HW.out.1 _ _, below_setCell2 HW.out.2 (Nat.le_refl _) _ _ _ _⟩
        · have t1 : (Lx.kind (l.drop j) == 1) = false := by rw [hk]; rfl
          have t2 : (Lx.kind (l.drop j) == 2) = false := by rw [hk]; rfl
          have t4 : (Lx.kind (l.drop j) == 4) = true := by rw [hk]; rfl
          have HKK := Lib.hid hk
          have HO : Hid (Lx.one (l.drop j) = ((4, (l.drop (j + 1)).takeWhile Lx.letter), (l.drop (j + 1)).dropWhile Lx.letter)) := by
            show _ = _
            rw [HC.out] at hk ⊢; exact Lx.one_k4 hk
          clear hk
          go_wp2_with fail
          go_loop [7] (fun i => ∃ m : Nat, j + 1 ≤ m ∧ m ≤ l.length ∧ i = .int .i64 m ∧ Hid ((l.drop (j + 1)).takeWhile Lx.letter = (l.take m).drop (j + 1) ++ (l.drop m).takeWhile Lx.letter ∧ (l.drop (j + 1)).dropWhile Lx.letter = (l.drop m).dropWhile Lx.letter)) (fun i => l.length - (intOf i).toNat)
          case atStart => exact ⟨j + 1, by omega, by omega, by go_num, ⟨by rw [take_drop_self]; rfl, rfl⟩⟩
          case round =>
            obtain ⟨m, hjm, hm, rfl, HM⟩ := hrel
            by_cases hml : m < l.length
            · have hmi : (m : Int) < (l.length : Int) := by omega
              by_cases hlet : Lx.letter l[m] = true
              · go_wp2_with (first | (go_at_call 48; (with_reducible refine (refLetter_any _ _).mono ?_); rintro e w' ⟨rfl, rfl⟩) | fail)
                go_round
                case rel =>
                  refine ⟨m + 1, by omega, by omega, by go_num, ?_⟩
                  have h := HM.out
                  rw [drop_at hml, List.takeWhile_cons_of_pos hlet, List.dropWhile_cons_of_pos hlet] at h
                  exact ⟨by rw [h.1, take_drop_snoc hml hjm]; simp, h.2⟩
                case measure => simp [intOf]; omega
              · have hlet' : Lx.letter l[m] = false := by simpa using hlet
                have HX : Hid ((l.drop (j + 1)).takeWhile Lx.letter = (l.take m).drop (j + 1) ∧ (l.drop (j + 1)).dropWhile Lx.letter = l.drop m) := by
                  have h := HM.out
                  rw [drop_at hml, List.takeWhile_cons_of_neg hlet, List.dropWhile_cons_of_neg hlet] at h
                  exact ⟨by rw [h.1]; simp, by rw [h.2, drop_at hml]⟩
                clear hlet
                go_wp2_with (first | (go_at_call 48; (with_reducible refine (refLetter_any _ _).mono ?_); rintro e w' ⟨rfl, rfl⟩) | fail)
                go_meet
                exact ⟨m, rfl, hm, by show _ = _; rw [HO.out]; exact HX.out.2.symm, by show _ = _; rw [HO.out, heap_alloc_new, HKK.out, HX.out.1], (Below.refl _ _).alloc (Nat.le_refl _) _⟩
            · obtain rfl : m = l.length := by omega
              have HX : Hid ((l.drop (j + 1)).takeWhile Lx.letter = (l.take l.length).drop (j + 1) ∧ (l.drop (j + 1)).dropWhile Lx.letter = []) := by
                have h := HM.out
                rw [List.drop_length] at h
                exact ⟨by rw [h.1]; simp, h.2⟩
              go_wp2_with fail
              go_meet
              exact ⟨l.length, rfl, hm, by show _ = _; rw [HO.out, HX.out.2, List.drop_length], by show _ = _; rw [HO.out, heap_alloc_new, HKK.out, HX.out.1]; simp, (Below.refl _ _).alloc (Nat.le_refl _) _⟩
        · have t1 : (Lx.kind (l.drop j) == 1) = false := by rw [hk]; rfl
          have t2 : (Lx.kind (l.drop j) == 2) = false := by rw [hk]; rfl
          have t4 : (Lx.kind (l.drop j) == 4) = false := by rw [hk]; rfl
          have t7 : (Lx.kind (l.drop j) == 7) = false := by rw [hk]; rfl
          have HKK := Lib.hid hk
          have HO : Hid (Lx.one (l.drop j) = ((5, []), l.drop (j + 1))) := by
            show _ = _
            rw [HC.out] at hk ⊢; exact Lx.one_k5 hk
          clear hk
          go_wp2_with fail
          go_meet
          exact ⟨j + 1, by go_num, by omega, by show _ = _; rw [HO.out], by show _ = _; rw [HO.out, heap_alloc_new, HKK.out], (Below.refl _ _).alloc (Nat.le_refl _) _⟩
        · have t1 : (Lx.kind (l.drop j) == 1) = false := by rw [hk]; rfl
          have t2 : (Lx.kind (l.drop j) == 2) = false := by rw [hk]; rfl
          have t4 : (Lx.kind (l.drop j) == 4) = false := by rw [hk]; rfl
          have t7 : (Lx.kind (l.drop j) == 7) = false := by rw [hk]; rfl
          have HKK := Lib.hid hk
          have HO : Hid (Lx.one (l.drop j) = ((6, []), l.drop (j + 1))) := by
            show _ = _
            rw [HC.out] at hk ⊢; exact Lx.one_k6 hk
          clear hk
          go_wp2_with fail
          go_meet
          exact ⟨j + 1, by go_num, by omega, by show _ = _; rw [HO.out], by show _ = _; rw [HO.out, heap_alloc_new, HKK.out], (Below.refl _ _).alloc (Nat.le_refl _) _⟩
        · have t1 : (Lx.kind (l.drop j) == 1) = false := by rw [hk]; rfl
          have t2 : (Lx.kind (l.drop j) == 2) = false := by rw [hk]; rfl
          have t4 : (Lx.kind (l.drop j) == 4) = false := by rw [hk]; rfl
          have t7 : (Lx.kind (l.drop j) == 7) = true := by rw [hk]; rfl
          have HKK := Lib.hid hk
          have hj2 : j + 1 < l.length := by
            have h7 := hk
            rw [HC.out] at h7
            have := (Lx.kind_seven h7).2.1
            rcases Nat.lt_or_ge (j + 1) l.length with h | h
            · exact h
            · exact absurd (List.drop_eq_nil_of_le h) this
          have HO : Hid (Lx.one (l.drop j) = ((7, [l[j + 1]]), l.drop (j + 1 + 1))) := by
            show _ = _
            rw [HC.out] at hk ⊢; rw [Lx.one_k7 hk, drop_at hj2]; first | done | rfl
          clear hk
          go_wp2_with fail
          go_meet
          exact ⟨j + 1 + 1, by go_num, by omega, by show _ = _; rw [HO.out], by show _ = _; rw [HO.out, heap_alloc_new, HKK.out], (Below.refl _ _).alloc (Nat.le_refl _) _⟩
        · have t1 : (Lx.kind (l.drop j) == 1) = true := by rw [hk]; rfl
          have HO := Lib.hid (Lx.one_k1 hk)
          clear hk
          go_wp2_with (first | (go_at_call 46; (with_reducible refine (refWord_any _ _ hlt (by omega) _).mono ?_); rintro e w1 ⟨e1, rfl, he1, hd1, hb1⟩; have HW := HGW.out _ hb1; have q0 := pair_cell0 HW.out.1; have q1 := pair_cell1 HW.out.1; have f0 := pair_free HW.out.1 0; have f1 := pair_free HW.out.1 1; have HD1 := Lib.hid hd1; clear hd1 hb1) | fail)
          go_meet
          exact ⟨e1, rfl, he1, by show _ = _; rw [HO.out]; exact HD1.out, by show _ = _; rw [HO.out]; exact pair_set HW.out.1 _ _, below_setCell2 HW.out.2 (Nat.le_refl _) _ _ _ _⟩
      case rest =>
        obtain ⟨e1, rfl, he1, HD, HT, hb1⟩ := hcut
        have q0 : wc.cell? ⟨wr.heap.size, 0, none⟩ = some (.int .i64 (Lx.one (l.drop j)).1.1) := by simp [World.cell?, show wc.heap[wr.heap.size]? = _ from HT]
        have q1 : wc.cell? ⟨wr.heap.size, 1, none⟩ = some (.string (S (Lx.one (l.drop j)).1.2)) := by simp [World.cell?, show wc.heap[wr.heap.size]? = _ from HT]
        have hown1 := own_below hown (own_under hown) hb1
        have hsz1 := hb1.size
        have hj1 : j < e1 := by
          have h1 := HLEN.out; rw [← HD.out] at h1; simp at h1; omega
        go_wp2_with (at_builtin; refine wp_app tyRef rfl _ _ rfl w.heap.size hown1 rfl rfl (by simp) rfl tc_one (by omega) (by omega) (by omega) ?_; intro v2 w2 hown2 hb2 _)
        go_roundw
        case rel => exact ⟨e1, acc ++ [(Lx.one (l.drop j)).1], he1, by simp; omega, rfl, by rw [tcs_snoc, List.length_append]; exact hown2, by show _ = _; rw [← HG.out, HLEX.out, HD.out]; simp, (hbw.trans (hb1.mono hsz)).trans hb2⟩
        case measure => simp [intOf]; omega
    · obtain rfl : j = l.length := by omega
      have hx : acc = Lx.lex l := by rw [← HG.out, List.drop_length, Lx.lex_nil, List.append_nil]
      subst hx
      go_wp2_with fail
      go_ret
      exact ⟨_, rfl, hown, hbw⟩

end Go.Proofs.YtjfikkjaifdkiaaGreatDoor

namespace Go.Proofs.YtjfikkjaifdkiaaGreatDoor
open Go.RowKit

/-- What 'word' answers. -/
def W8 (l : List Lx.Tok) (n : Int) : List (List Lx.Tok) × List UInt8 × Int × Bool :=
  if (argsAt l 0 n).2.2 = 0 then ((argsAt l 0 n).1, (wordOf ((argsAt l 0 n).1.getD 0 [])).1, (argsAt l 0 n).2.1, (wordOf ((argsAt l 0 n).1.getD 0 [])).2) else ([], [], 0, false)
theorem args_ok {l : List Lx.Tok} {n : Int} (h : (argsAt l 0 n).2.2 = 0) : ∃ tq : Nat, (argsAt l 0 n).2.1 = (tq : Int) ∧ tq ≤ l.length ∧ (argsAt l 0 n).1.length = n.toNat ∧ (∀ g ∈ (argsAt l 0 n).1, g.length + 2 ≤ tq ∧ ∀ t ∈ g, t ∈ l) ∧ 0 ≤ n ∧ n ≤ 9 := by
  unfold argsAt at h ⊢
  by_cases hb : (0 : Int) < 0 ∨ (l.length : Int) < 0 ∨ n < 0 ∨ 9 < n
  · simp only [if_pos hb] at h
    exact absurd h (by decide)
  · simp only [if_neg hb, Int.toNat_zero, List.drop_zero] at h ⊢
    cases ha : Mx.args n.toNat l with
    | none => rw [ha] at h; exact absurd h (by decide)
    | some y =>
      simp only [ares]
      obtain ⟨h4, h5, h6⟩ := Ex.args_to _ _ _ ha
      exact ⟨y.2, by omega, h4, h5, h6, by omega, by omega⟩
theorem gr_of {l : List Lx.Tok} {n : Int} {k tq : Nat} (h : (argsAt l 0 n).2.2 = 0) (ht : (argsAt l 0 n).2.1 = (tq : Int)) (hw : ((argsAt l 0 n).1.take k).all (fun g => (wordOf g).2) = true) : Ex.gr l n k = some ((argsAt l 0 n).1, ((argsAt l 0 n).1.take k).map (fun g => (wordOf g).1), l.drop tq) := by
  unfold Ex.gr
  rw [if_pos ⟨h, hw⟩, ht, Int.toNat_natCast]
theorem gr_not {l : List Lx.Tok} {n : Int} {k : Nat} (h : ¬ ((argsAt l 0 n).2.2 = 0 ∧ ((argsAt l 0 n).1.take k).all (fun g => (wordOf g).2) = true)) : Ex.gr l n k = none := by
  unfold Ex.gr
  rw [if_neg h]

set_option maxRecDepth 20000 in
set_option maxHeartbeats 4000000 in
/-- The reference's 'word'. -/
theorem word8_any {M : List (Nat × Obj)} {bw : Nat} {vf : Value} {fs : List Fl} {most : Nat} {st : Ex.St} (n : Nat) (hn1 : 1 ≤ n) (w : World) (h : Wx M w bw vf fs most st) (hlen : st.inn.length ≤ 1000000) {z : Int} (hz : z = (n : Int)) :
    Calls Tryz.prog 51 #[.pointer (some ⟨bw, 0, none⟩), .int .i64 z] w fun e w' => ∃ v, e = .returned (.tuple #[v, .string (S (W8 st.inn z).2.1), .int .i64 (W8 st.inn z).2.2.1, .bool (W8 st.inn z).2.2.2]) ∧ Oll w' w.heap.size 35 v (W8 st.inn z).1 ∧ Below w.heap.size w w' := by
  obtain ⟨vin, vm, vL, vR, vN, ps, h1, h2⟩ := h
  obtain ⟨ai, ci, hvi⟩ := h2.inn.shape
  subst hvi
  have HA := Lib.hid (refArgsO_any (.slice ai st.inn.length ci) st.inn 0 z w h2.inn (by omega))
  obtain ⟨li, hli⟩ : ∃ l, l = st.inn := ⟨_, rfl⟩
  have c1 := h1.cell (i := 1) rfl
  rw [← hli] at HA c1 ⊢
  have HOK := Lib.hid (args_ok (l := li) (n := z))
  have HW : Hid (W8 li z = if (argsAt li 0 z).2.2 = 0 then ((argsAt li 0 z).1, (wordOf ((argsAt li 0 z).1.getD 0 [])).1, (argsAt li 0 z).2.1, (wordOf ((argsAt li 0 z).1.getD 0 [])).2) else ([], [], 0, false)) := Lib.hid rfl
  clear h1 h2 hli
  rcases hA : argsAt li 0 z with ⟨x, tz, er⟩
  rw [hA] at HA HOK HW
  clear hA
  obtain ⟨W, hWW⟩ : ∃ W, W = W8 li z := ⟨_, rfl⟩
  rw [← hWW] at HW ⊢
  clear hWW
  by_cases h0 : er = 0
  · subst h0
    have hW : W = (x, (wordOf (x.getD 0 [])).1, tz, (wordOf (x.getD 0 [])).2) := by rw [HW.out]; rfl
    subst hW
    obtain ⟨tq, htz, _, hxl, _⟩ := HOK.out rfl
    have hx0 : 0 < x.length := by
      have h9 : x.length = z.toNat := hxl
      omega
    obtain ⟨g0, hg0⟩ : ∃ g, g = x.getD 0 [] := ⟨_, rfl⟩
    rw [← hg0]
    have HG0 := Lib.hid hg0
    have hxi : (0 : Int) < (x.length : Int) := by omega
    clear HW HOK hg0 htz hxl hz
    go_enter Tryz.func51, Tryz.ntmps51
    go_wp2_with (first
      | (go_at_call 89; (with_reducible refine HA.out.mono ?_); rintro e w1 ⟨v, rfl, ox, b1⟩; have HOX := Lib.hid ox; obtain ⟨ax, cx, rfl⟩ := ox.shape; obtain ⟨gb, u, rfl, c0, rt0, _⟩ := Oll.at9 ox (i := 0) hx0; rw [← HG0.out] at rt0; obtain ⟨au, cu, rfl⟩ := rt0.shape; have HWD := Lib.hid (refWord_one _ g0 w1 rt0); clear ox rt0)
      | (go_at_call 87; (with_reducible refine HWD.out.mono ?_); rintro e w2 ⟨rfl, rfl⟩)
      | fail)
    (try simp only [Exit.inBlock, Exit.then])
    refine bodyPost_ret (results_tmp4 rfl _ _ _) rfl ⟨_, rfl, HOX.out, b1⟩
  · have hW : W = ([], [], 0, false) := by rw [HW.out]; exact if_neg h0
    subst hW
    have hb : (er != 0) = true := by simp [bne, h0]
    have hb2 : (er == 0) = false := by simp [h0]
    clear HW HOK h0 hz
    go_enter Tryz.func51, Tryz.ntmps51
    simp only [S_lit]
    go_wp2_with (first
      | (go_at_call 89; (with_reducible refine HA.out.mono ?_); rintro e w1 ⟨v, rfl, ox, b1⟩; have HOX := Lib.hid ox; obtain ⟨ax, cx, rfl⟩ := ox.shape; clear ox)
      | fail)
    (try simp only [Exit.inBlock, Exit.then])
    refine bodyPost_ret (results_tmp4 rfl _ _ _) rfl ⟨_, rfl, Oll.nil _ _ _, b1⟩

theorem Wr.rest {M : List (Nat × Obj)} {w : World} {bw : Nat} {vf vin vm vL vR vN : Value} {fs : List Fl} {ps : List (Mac × Value)} {st : Ex.St} (h2 : Wr M w bw vf vin vm vL vR vN fs ps st) (h0 : 0 < st.inn.length) {tq : Nat} (htq : tq ≤ st.inn.length) :
    ∃ b o ci, vin = .slice (some ⟨b, o, none⟩) st.inn.length ci ∧ st.inn.length ≤ ci ∧
      Wr M w bw vf (.slice (if ci = tq then some ⟨b, o, none⟩ else some ⟨b, o + tq * 2, none⟩) (st.inn.length - tq) (ci - tq)) vm vL vR vN fs ps { st with inn := st.inn.drop tq } := by
  rcases h2.inn.2 with ⟨_, h9⟩ | ⟨b, o, ci, hv, hlt, hc, hcap⟩
  · omega
  · subst hv
    refine ⟨b, o, ci, rfl, hcap, ?_⟩
    by_cases hct : ci = tq
    · rw [if_pos hct]
      have hlen : st.inn.length - tq = 0 := by omega
      have hdr : st.inn.drop tq = [] := List.drop_eq_nil_of_le (by omega)
      rw [hdr, hlen]
      exact h2.setIn (l := []) ⟨rfl, .inl ⟨.inr ⟨_, _, rfl⟩, rfl⟩⟩ fun h0' => absurd h0' (by simp)
    · rw [if_neg hct]
      have hr := Rt.part h2.inn rfl htq (Nat.le_refl _) (ci - tq) (by omega)
      rw [List.take_length] at hr
      refine h2.setIn (l := st.inn.drop tq) hr fun h0' b' hb' => ?_
      have e : b = b' := by simpa [Value.ownBlock] using hb'
      subst e
      exact h2.ifar h0 b rfl
theorem rt_lt {w : World} {v : Value} {l : List Lx.Tok} (h : Rt w v l) (h0 : 0 < l.length) {b : Nat} (hb : v.ownBlock = some b) : b < w.heap.size := by
  rcases h.2 with ⟨_, h9⟩ | ⟨b', o, cap, rfl, hlt, _, _⟩
  · omega
  · have e : b' = b := by simpa [Value.ownBlock] using hb
    subst e
    exact hlt h0

set_option maxRecDepth 20000 in
set_option maxHeartbeats 8000000 in
/-- The reference's 'def'. -/
theorem def8_any {M : List (Nat × Obj)} {bw B T : Nat} {vf : Value} {fs : List Fl} {most : Nat} {st : Ex.St} (w : World) (h : Wx M w bw vf fs most st) (hok : Ex.Ok most B T st) (hB : B ≤ 1000000) (hT : T ≤ 1000000) (hnl : st.notes.length ≤ 1000000) :
    Calls Tryz.prog 50 #[.pointer (some ⟨bw, 0, none⟩)] w fun e w' => e = .returned (.tuple #[]) ∧ Wx M w' bw vf fs most (Ex.doDef st) ∧ Below bw w w' := by
  have HW := Lib.hid (word8_any 3 (by decide) w h (by have := hok.inl; omega) (z := 3) rfl)
  have HNT : Hid (∀ W, Wx M W bw vf fs most st → Calls Tryz.prog 20 #[.pointer (some ⟨bw, 0, none⟩), .int .i64 10, .string (S [100, 101, 102])] W fun e w' => e = .returned (.tuple #[]) ∧ Wx M w' bw vf fs most (Ex.note st 10 Ex.sDef) ∧ Below bw W w') := Lib.hid fun W hW => note8_any 10 [100, 101, 102] W hW hnl
  have HK := Lib.hid h
  have HLT := Lib.hid h.lt
  have HOK := Lib.hid hok
  clear h hok
  by_cases hw : (W8 st.inn 3).2.2.2 = true
  · have h0 : (argsAt st.inn 0 3).2.2 = 0 := by
      unfold W8 at hw
      split at hw
      · assumption
      · cases hw
    obtain ⟨tq, htz, htq, hxl, hin, _, _⟩ := args_ok h0
    obtain ⟨x, hx⟩ : ∃ x, x = (argsAt st.inn 0 3).1 := ⟨_, rfl⟩
    have eW : W8 st.inn 3 = (x, (wordOf (x.getD 0 [])).1, (tq : Int), true) := by
      unfold W8 at hw ⊢
      rw [if_pos h0] at hw ⊢
      rw [← hx] at hw ⊢
      rw [htz]
      simp only at hw
      rw [hw]
    have hwg0 : (wordOf (x.getD 0 [])).2 = true := by
      unfold W8 at hw
      rw [if_pos h0, ← hx] at hw
      exact hw
    have HG : ∀ k : Nat, (x.take k).all (fun g => (wordOf g).2) = true → Ex.gr st.inn 3 k = some (x, (x.take k).map (fun g => (wordOf g).1), st.inn.drop tq) := fun k hk => by rw [hx] at hk ⊢; exact gr_of h0 htz hk
    have HGN : ∀ k : Nat, ¬ (x.take k).all (fun g => (wordOf g).2) = true → Ex.gr st.inn 3 k = none := fun k hk => by rw [hx] at hk; exact gr_not fun h9 => hk h9.2
    rw [← hx] at hxl hin
    clear hx
    obtain ⟨g0, g1, g2, rfl⟩ : ∃ g0 g1 g2, x = [g0, g1, g2] := by
      match x, hxl with
      | [a, b, c], _ => exact ⟨a, b, c, rfl⟩
    have HG2 := HG 2
    have HGN2 := HGN 2
    simp only [List.take_succ_cons, List.take_zero, List.all_cons, List.all_nil, Bool.and_true, List.map_cons, List.map_nil, List.getD_cons_zero] at HG2 HGN2 hwg0
    rw [hwg0, Bool.true_and] at HG2 HGN2
    rw [eW] at HW
    simp only [List.getD_cons_zero] at HW
    have hT0 : (wordOf g0).1.length ≤ T := by
      have h9 := hin g0 (by simp)
      revert hwg0
      unfold wordOf
      match g0, h9 with
      | [t], h9 =>
        simp only
        split
        · intro _; exact HOK.out.int t (h9.2 t (by simp))
        · intro h8; cases h8
      | [], _ => intro h8; cases h8
      | _ :: _ :: _, _ => intro h8; cases h8
    have hi0 : 0 < st.inn.length := by
      have := (hin g0 (by simp)).1
      omega
    have hg2l : g2.length ≤ 1000000 := by
      have := (hin g2 (by simp)).1
      have := HOK.out.inl
      omega
    obtain ⟨nm, hnm⟩ : ∃ n, n = (wordOf g0).1 := ⟨_, rfl⟩
    rw [← hnm] at HW HG2 hT0
    clear hnm hwg0 hw h0 htz hxl hin eW HG HGN
    obtain ⟨d, hd⟩ : ∃ d, d = (wordOf g1).1 := ⟨_, rfl⟩
    obtain ⟨one, hone⟩ : ∃ o, o = (wordOf g1).2 := ⟨_, rfl⟩
    have HDO := Lib.hid (And.intro hd hone)
    rw [← hone] at HG2 HGN2
    rw [← hd] at HG2
    clear hd hone
    have HWD : Hid (∀ W u, Rt W u g1 → Calls Tryz.prog 87 #[u] W fun e w' => e = .returned (.tuple #[.string (S d), .bool one]) ∧ w' = W) := Lib.hid fun W u hu => by
      have h9 := refWord_one u g1 W hu
      rw [← HDO.out.1, ← HDO.out.2] at h9
      exact h9
    clear HDO
    -- what 'def' comes to
    by_cases hbad : ¬ (one = true ∧ Ex.okd d = true)
    · have HD : Hid (Ex.doDef st = Ex.note st 10 Ex.sDef) := Lib.hid (by
        unfold Ex.doDef
        cases one
        · rw [HGN2 (by simp)]
        · rw [HG2 rfl]
          simp only [List.getD_cons_succ, List.getD_cons_zero]
          rw [if_neg fun h9 => hbad ⟨rfl, h9⟩])
      clear HG2 HGN2 hT0 htq hi0 hg2l
      cases one
      · clear hbad
        go_enter Tryz.func50, Tryz.ntmps50
        simp only [S_lit]
        go_wp2_with (first
          | (go_at_call 51; (with_reducible refine HW.out.mono ?_); rintro e w1 ⟨v, rfl, ox, b1⟩; obtain ⟨ax, cx, rfl⟩ := ox.shape; obtain ⟨gb, u, rfl, c0, rt0, _⟩ := Oll.at9 ox (i := 1) (by simp); have rt1 : Rt w1 u g1 := rt0; obtain ⟨au, cu, rfl⟩ := rt1.shape; have HR1 := Lib.hid rt1; clear ox rt0 rt1)
          | (go_at_call 87; (with_reducible refine (HWD.out _ _ HR1.out).mono ?_); rintro e w2 ⟨rfl, rfl⟩)
          | (go_at_call 20; (with_reducible refine (HNT.out _ (HK.out.below b1)).mono ?_); rintro e w3 ⟨rfl, k3, b3⟩)
          | fail)
        (try simp only [Exit.inBlock, Exit.then])
        refine bodyPost_ret (results_none rfl _ _ _) rfl ⟨rfl, by rw [HD.out]; exact k3, (b1.mono (Nat.le_of_lt HLT.out)).trans b3⟩
      · by_cases hl : d.length = 1
        · obtain ⟨c, rfl⟩ : ∃ c, d = [c] := by
            match d, hl with
            | [c], _ => exact ⟨c, rfl⟩
          have hcc : (c.toNat : Int) < 48 ∨ (¬ (c.toNat : Int) < 48 ∧ 57 < (c.toNat : Int)) := by
            have h9 : ¬ Ex.okd [c] = true := fun h9 => hbad ⟨rfl, h9⟩
            simp [Ex.okd] at h9
            omega
          clear hbad
          rcases hcc with hcc | ⟨hcc, hcd⟩
          all_goals (
            go_enter Tryz.func50, Tryz.ntmps50
            simp only [S_lit]
            go_wp2_with (first
              | (go_at_call 51; (with_reducible refine HW.out.mono ?_); rintro e w1 ⟨v, rfl, ox, b1⟩; obtain ⟨ax, cx, rfl⟩ := ox.shape; obtain ⟨gb, u, rfl, c0, rt0, _⟩ := Oll.at9 ox (i := 1) (by simp); have rt1 : Rt w1 u g1 := rt0; obtain ⟨au, cu, rfl⟩ := rt1.shape; have HR1 := Lib.hid rt1; clear ox rt0 rt1)
              | (go_at_call 87; (with_reducible refine (HWD.out _ _ HR1.out).mono ?_); rintro e w2 ⟨rfl, rfl⟩)
              | (go_at_call 20; (with_reducible refine (HNT.out _ (HK.out.below b1)).mono ?_); rintro e w3 ⟨rfl, k3, b3⟩)
              | fail)
            (try simp only [Exit.inBlock, Exit.then])
            refine bodyPost_ret (results_none rfl _ _ _) rfl ⟨rfl, by rw [HD.out]; exact k3, (b1.mono (Nat.le_of_lt HLT.out)).trans b3⟩)
        · have e1 : ((d.length : Int) != 1) = true := by simp only [bne, Bool.not_eq_true', beq_eq_false_iff_ne]; omega
          have e2 : ((d.length : Int) == 1) = false := by rw [beq_eq_false_iff_ne]; omega
          clear hbad hl
          go_enter Tryz.func50, Tryz.ntmps50
          simp only [S_lit]
          go_wp2_with (first
            | (go_at_call 51; (with_reducible refine HW.out.mono ?_); rintro e w1 ⟨v, rfl, ox, b1⟩; obtain ⟨ax, cx, rfl⟩ := ox.shape; obtain ⟨gb, u, rfl, c0, rt0, _⟩ := Oll.at9 ox (i := 1) (by simp); have rt1 : Rt w1 u g1 := rt0; obtain ⟨au, cu, rfl⟩ := rt1.shape; have HR1 := Lib.hid rt1; clear ox rt0 rt1)
            | (go_at_call 87; (with_reducible refine (HWD.out _ _ HR1.out).mono ?_); rintro e w2 ⟨rfl, rfl⟩)
            | (go_at_call 20; (with_reducible refine (HNT.out _ (HK.out.below b1)).mono ?_); rintro e w3 ⟨rfl, k3, b3⟩)
            | fail)
          (try simp only [Exit.inBlock, Exit.then])
          refine bodyPost_ret (results_none rfl _ _ _) rfl ⟨rfl, by rw [HD.out]; exact k3, (b1.mono (Nat.le_of_lt HLT.out)).trans b3⟩
    · have hgood : one = true ∧ Ex.okd d = true := Classical.not_not.1 hbad
      obtain ⟨rfl, hokd⟩ := hgood
      obtain ⟨c, rfl⟩ : ∃ c, d = [c] := by
        unfold Ex.okd at hokd
        match d, hokd with
        | [c], _ => exact ⟨c, rfl⟩
        | [], h9 => cases h9
        | _ :: _ :: _, h9 => cases h9
      have hc : 48 ≤ (c.toNat : Int) ∧ (c.toNat : Int) ≤ 57 := by
        simp [Ex.okd] at hokd
        omega
      obtain ⟨dg, hdg⟩ : ∃ z : Int, z = (c.toNat : Int) - 48 := ⟨_, rfl⟩
      have hdg2 : Ex.digit [c] = dg := by rw [hdg]; rfl
      have HD : Hid (Ex.doDef st = if (putM st.macs (nm, dg, g2)).2 = 0 then { st with inn := st.inn.drop tq, macs := (putM st.macs (nm, dg, g2)).1 } else Ex.note { st with inn := st.inn.drop tq } (putM st.macs (nm, dg, g2)).2 nm) := Lib.hid (by
        unfold Ex.doDef
        rw [HG2 rfl]
        simp only [List.getD_cons_succ, List.getD_cons_zero]
        rw [if_pos hokd, hdg2])
      have l1 : ¬ (c.toNat : Int) < 48 := by omega
      have l2 : ¬ 57 < (c.toNat : Int) := by omega
      have w1 : wrap64 ((c.toNat : Int) - 48) = dg := by rw [Go.IntWalk.wrap64_in _ (by omega), hdg]
      have w2 : IntKind.i64.wrap ((c.toNat : Int) - 48) = dg := by rw [Go.IntWalk.i64_left]; exact w1
      obtain ⟨vin, vm, vL, vR, vN, ps, h1, h2⟩ := HK.out
      have HPS : Hid (ps.map Prod.fst = st.macs) := Lib.hid h2.fst
      have HB1 := Lib.hid h1
      have HS1 := Lib.hid h2
      obtain ⟨bi, oi, ci, rfl, hci, hrest⟩ := h2.rest hi0 htq
      have c1w := h1.cell (i := 1) rfl
      obtain ⟨LI, hLI⟩ : ∃ LI, LI = st.inn.length := ⟨_, rfl⟩
      rw [← hLI] at c1w hci hrest htq
      have hl2 : (tq : Int) ≤ (LI : Int) := by omega
      have hc2 : (LI : Int) ≤ (ci : Int) := by omega
      obtain ⟨vi2, hvi2⟩ : ∃ v, v = Value.slice (if ci = tq then some ⟨bi, oi, none⟩ else some ⟨bi, oi + tq * 2, none⟩) (LI - tq) (ci - tq) := ⟨_, rfl⟩
      rw [← hvi2] at hrest
      have HV := Lib.hid hvi2
      have HRE := Lib.hid hrest
      have HLI := Lib.hid hLI
      clear hvi2 hrest hLI h1 h2 HG2 HGN2 hbad hokd hdg hdg2 hc HNT
      obtain ⟨er, her⟩ : ∃ er, er = (putM st.macs (nm, dg, g2)).2 := ⟨_, rfl⟩
      rw [← her] at HD
      have HER := Lib.hid her
      clear her
      go_enter Tryz.func50, Tryz.ntmps50
      simp only [S_lit]
      go_upto_region 6 with (first
        | (go_at_call 51; (with_reducible refine HW.out.mono ?_); rintro e w1' ⟨v, rfl, ox, b1⟩; obtain ⟨ax, cx, rfl⟩ := ox.shape; obtain ⟨gb, u, rfl, c0, rt0, hgl, hgB, _, _⟩ := Oll.at9 ox (i := 1) (by simp); obtain ⟨gb2, u2, hg2, c2x, rt2, _, _, _, hub2⟩ := Oll.at9 ox (i := 2) (by simp); cases hg2; have rt1 : Rt w1' u g1 := rt0; obtain ⟨au, cu, rfl⟩ := rt1.shape; have rt3 : Rt w1' u2 g2 := rt2; obtain ⟨a2, c2', rfl⟩ := rt3.shape; have HR1 := Lib.hid rt1; have HR3 := Lib.hid rt3; have HGB := Lib.hid (And.intro hgl (And.intro hgB hub2)); have HC2X := Lib.hid c2x; have HBB := Lib.hid b1; clear ox rt0 rt1 rt2 rt3 hgl hgB hub2 c2x b1)
        | (go_at_call 87; (with_reducible refine (HWD.out _ _ HR1.out).mono ?_); rintro e w2' ⟨rfl, rfl⟩)
        | fail)
      have hr1 := HB1.out.kw (Kw.of_below HBB.out) (by have := HB1.out.lt; omega)
      have c1 := hr1.cell (i := 1) rfl
      have f1 := hr1.free 1
      rw [← HLI.out] at c1
      have HR1B := Lib.hid hr1
      clear hr1 c0
      go_upto_region 7 with fail
      rw [← HV.out]
      rename World => WA
      obtain ⟨W2, hW2⟩ : ∃ W2, W2 = WA.setCell ⟨bw, 1, none⟩ vi2 := ⟨_, rfl⟩
      rw [← hW2]
      have hgb2 : gb < W2.heap.size := by rw [hW2]; exact Nat.lt_of_lt_of_le HGB.out.1 (Kw.set WA bw 1 vi2).size
      have hne : gb ≠ bw := by have := HGB.out.2.1; have := HLT.out; omega
      have r2 := HR1B.out.set 1 vi2
      rw [← hW2] at r2
      have s2 := (HRE.out.below HBB.out).set 1 vi2
      rw [← hW2] at s2
      have c2 : W2.cell? ⟨bw, 2, none⟩ = some vm := r2.cell (i := 2) rfl
      have cg : W2.cell? ⟨gb, 2, none⟩ = some (.slice a2 g2.length c2') := by rw [hW2]; exact (World.cell?_of_block ((Kw.set WA bw 1 vi2).block gb HGB.out.1 hne)).trans HC2X.out
      have hrt2 : Rt W2 (.slice a2 g2.length c2') g2 := by rw [hW2]; exact Rd.keep HR3.out (Kw.set WA bw 1 vi2) fun _ b hb e => by have := HGB.out.2.2 b hb; have := HLT.out; omega
      have hB2 : Below bw w W2 := by
        rw [hW2]
        have h9 := HBB.out.mono (Nat.le_of_lt HLT.out)
        exact h9.trans ((Kw.set WA bw 1 vi2).below (fun j e => by omega) (Nat.le_trans (Nat.le_of_lt HLT.out) h9.size))
      have w3 : IntKind.i64.wrap (IntKind.i64.wrap (c.toNat : Int) - 48) = dg := by rw [Go.IntWalk.i64_in (c.toNat : Int) (by omega)]; exact w2
      have HP : Hid (Calls Tryz.prog 88 #[vm, .agg #[.string (S nm), .int .i64 (IntKind.i64.wrap (IntKind.i64.wrap (c.toNat : Int) - 48)), .slice a2 g2.length c2']] W2.drew fun e w' => ∃ v' qs, e = .returned (.tuple #[v', .int .i64 er]) ∧ qs.map Prod.fst = (putM st.macs (nm, dg, g2)).1 ∧ (∀ p ∈ qs, p ∈ ps ∨ p = ((nm, dg, g2), Value.slice a2 g2.length c2')) ∧ w'.ownsRow W2.drew.heap.size 107 3 v' qs.length (mcs qs) ∧ Below W2.drew.heap.size W2.drew w') := Lib.hid (by
        rw [w3]
        have h9 := refMput_any vm (.slice a2 g2.length c2') ps (nm, dg, g2) W2.drew s2.macs hrt2 (by have := HOK.out.mln; rw [← HPS.out, List.length_map] at this; omega) (by rw [HPS.out]; exact HOK.out.srt) (by have := hT0; show nm.length ≤ _; omega)
        rw [HPS.out, ← HER.out] at h9
        exact h9)
      clear w1 w2 w3
      have HR2 := Lib.hid r2
      have HS2 := Lib.hid s2
      have HRT := Lib.hid hrt2
      have HB2 := Lib.hid hB2
      have bd : Below W2.heap.size W2 W2.drew := below_drewN (Below.refl W2.heap.size W2) 1
      clear hW2 r2 s2 hrt2 hB2 c1 f1 HRE HR1B HBB hl2 hc2 hci c1w htq
      go_region_held3 (fun w' => w'.cell? ⟨bw, 2, none⟩ = some vm ∧ w'.cell? ⟨gb, 2, none⟩ = some (.slice a2 g2.length c2'))
        (first
          | exact ⟨c2, cg⟩
          | exact ⟨k2, kg⟩
          | go_keep
          | fail)
        (first
          | (go_at_call 88; (with_reducible refine HP.out.mono ?_); rintro e w5 ⟨v5, qs, rfl, hq, hmem, o5, b5⟩; have b25 := bd.trans (b5.mono bd.size); have r5 := HR2.out.kw (Kw.of_below b25) (by have := HR2.out.lt; omega); have k2 : w5.cell? ⟨bw, 2, none⟩ = some vm := r5.cell (i := 2) rfl; have kf := r5.free 2; have kg : w5.cell? ⟨gb, 2, none⟩ = some (.slice a2 g2.length c2') := (b25.cell (p := ⟨gb, 2, none⟩) hgb2).trans cg; have HR5 := Lib.hid r5; have HQ := Lib.hid (And.intro hq (And.intro hmem o5)); have HB5 := Lib.hid b25; obtain ⟨a5, c5, rfl⟩ := own_shape o5; clear hq hmem o5 b5 b25 r5)
          | fail)
      have hk5 : Wx M w5 bw vf fs most { st with inn := st.inn.drop tq } := ⟨vi2, vm, vL, vR, vN, ps, HR5.out, HS2.out.below HB5.out⟩
      have HK5 := Lib.hid hk5
      clear hk5
      by_cases he : er = 0
      · subst he
        rw [if_pos rfl] at HD
        go_wp2_with fail
        go_end0
        refine ⟨rfl, ?_, (HB2.out.trans (HB5.out.mono (by have := HR2.out.lt; omega))).trans ((Kw.set w5 bw 2 _).below (fun j e => by omega) (Nat.le_of_lt HR5.out.lt))⟩
        rw [HD.out]
        have hlt9 := HB1.out.lt
        have hs5 := HS2.out.below HB5.out
        have hfar : ∀ v n, (∀ b, v.ownBlock = some b → w.heap.size ≤ b ∧ b < w5.heap.size) → Far w5 bw vL vR vN v n := fun v n hv _ b hb => ⟨(hv b hb).2, HS1.out.fresh hlt9 (hv b hb).1⟩
        have hsz2 : w.heap.size ≤ W2.heap.size := HB2.out.size
        have hm := hs5.setMacs (qs := qs) ⟨own_rd HQ.out.2.2, fun p hp => ?_⟩ (hfar _ _ fun b hb => by have := HQ.out.2.2.lt b hb; have : W2.drew.heap.size = W2.heap.size := rfl; omega) (fun p hp => ?_)
        · rw [HQ.out.1] at hm
          exact ⟨vi2, _, vL, vR, vN, qs, HR5.out.set 2 _, hm.set 2 _⟩
        · rcases HQ.out.2.1 p hp with h9 | rfl
          · exact hs5.macs.2 p h9
          · exact ⟨HRT.out.below' HB5.out, hg2l⟩
        · rcases HQ.out.2.1 p hp with h9 | rfl
          · exact hs5.bfar p h9
          · intro h0 b hb
            have h8 := HGB.out.2.2 b hb
            have h7 := rt_lt (HRT.out.below' HB5.out) h0 hb
            exact ⟨h7, HS1.out.fresh hlt9 h8⟩
      · rw [if_neg he] at HD
        have e1 : (er != 0) = true := by simp [bne, he]
        have e2 : (er == 0) = false := by simp [he]
        have HN5 := Lib.hid (note8_any er nm w5 HK5.out hnl)
        clear he
        go_wp2_with (first
          | (go_at_call 20; (with_reducible refine HN5.out.mono ?_); rintro e w6 ⟨rfl, k6, b6⟩)
          | fail)
        (try simp only [Exit.inBlock, Exit.then])
        refine bodyPost_ret (results_none rfl _ _ _) rfl ⟨rfl, by rw [HD.out]; exact k6, (HB2.out.trans (HB5.out.mono (by have := HR2.out.lt; omega))).trans b6⟩
  · have hw : (W8 st.inn 3).2.2.2 = false := by simpa using hw
    have hgn : Ex.gr st.inn 3 2 = none := by
      refine gr_not fun ⟨h0, h1⟩ => ?_
      obtain ⟨tq, htz, htq, hxl, hin, _, _⟩ := args_ok h0
      unfold W8 at hw
      rw [if_pos h0] at hw
      obtain ⟨x, hx⟩ : ∃ x, x = (argsAt st.inn 0 3).1 := ⟨_, rfl⟩
      rw [← hx] at hw hxl h1
      match x, hxl with
      | [a, b, c], _ =>
        simp only [List.getD_cons_zero] at hw
        simp only [List.take_succ_cons, List.all_cons, hw, Bool.false_and] at h1
        cases h1
    have HD : Hid (Ex.doDef st = Ex.note st 10 Ex.sDef) := Lib.hid (by unfold Ex.doDef; rw [hgn])
    rw [hw] at HW
    clear hw hgn
    go_enter Tryz.func50, Tryz.ntmps50
    simp only [S_lit]
    go_wp2_with (first
      | (go_at_call 51; (with_reducible refine HW.out.mono ?_); rintro e w1 ⟨v, rfl, ox, b1⟩; obtain ⟨ax, cx, rfl⟩ := ox.shape; clear ox)
      | (go_at_call 20; (with_reducible refine (HNT.out _ (HK.out.below b1)).mono ?_); rintro e w3 ⟨rfl, k3, b3⟩)
      | fail)
    (try simp only [Exit.inBlock, Exit.then])
    refine bodyPost_ret (results_none rfl _ _ _) rfl ⟨rfl, by rw [HD.out]; exact k3, (b1.mono (Nat.le_of_lt HLT.out)).trans b3⟩
end Go.Proofs.YtjfikkjaifdkiaaGreatDoor

namespace Go.Proofs.YtjfikkjaifdkiaaGreatDoor
open Go.RowKit

theorem w8_one {l : List Lx.Tok} (h : (W8 l 1).2.2.2 = true) : ∃ (g : List Lx.Tok) (tq : Nat), W8 l 1 = ([g], (wordOf g).1, (tq : Int), true) ∧ Ex.gr l 1 1 = some ([g], [(wordOf g).1], l.drop tq) ∧ tq ≤ l.length ∧ g.length + 2 ≤ tq ∧ ∀ t ∈ g, t ∈ l := by
  have h0 : (argsAt l 0 1).2.2 = 0 := by
    unfold W8 at h
    split at h
    · assumption
    · cases h
  obtain ⟨tq, htz, htq, hxl, hin, _, _⟩ := args_ok h0
  unfold W8 at h ⊢
  rw [if_pos h0] at h ⊢
  have HG := gr_of (k := 1) h0 htz
  obtain ⟨x, hx⟩ : ∃ x, x = (argsAt l 0 1).1 := ⟨_, rfl⟩
  rw [← hx] at h hxl hin HG ⊢
  obtain ⟨g, rfl⟩ : ∃ g, x = [g] := by
    match x, hxl with
    | [a], _ => exact ⟨a, rfl⟩
  simp only [List.getD_cons_zero] at h ⊢
  refine ⟨g, tq, by rw [h, htz], ?_, htq, (hin g (by simp)).1, (hin g (by simp)).2⟩
  rw [HG (by simp [h])]
  rfl
theorem w8_not {l : List Lx.Tok} {n : Int} (hn : 1 ≤ n) (h : (W8 l n).2.2.2 = false) {k : Nat} (hk : 1 ≤ k) : Ex.gr l n k = none := by
  refine gr_not fun ⟨h0, h1⟩ => ?_
  obtain ⟨tq, htz, htq, hxl, hin, _, _⟩ := args_ok h0
  unfold W8 at h
  rw [if_pos h0] at h
  obtain ⟨x, hx⟩ : ∃ x, x = (argsAt l 0 n).1 := ⟨_, rfl⟩
  rw [← hx] at h hxl h1
  match x, hxl with
  | [], hxl => simp only [List.length_nil] at hxl; omega
  | g :: r, _ =>
    obtain ⟨j, rfl⟩ : ∃ j, k = j + 1 := ⟨k - 1, by omega⟩
    simp only [List.getD_cons_zero] at h
    rw [List.take_succ_cons, List.all_cons, h] at h1
    cases h1
theorem word_len {g : List Lx.Tok} {l : List Lx.Tok} {T : Nat} (hg : ∀ t ∈ g, t ∈ l) (hl : ∀ t ∈ l, t.2.length ≤ T) : (wordOf g).1.length ≤ T := by
  unfold wordOf
  match g, hg with
  | [t], hg =>
    simp only
    split
    · exact hl t (hg t (by simp))
    · exact Nat.zero_le _
  | [], _ => exact Nat.zero_le _
  | _ :: _ :: _, _ => exact Nat.zero_le _

set_option maxRecDepth 20000 in
set_option maxHeartbeats 8000000 in
/-- The reference's 'include'. -/
theorem include8_any {M : List (Nat × Obj)} {bw B T : Nat} {vf : Value} {fs : List Fl} {most : Nat} {st : Ex.St} (w : World) (h : Wx M w bw vf fs most st) (hok : Ex.Ok most B T st) (hB : B ≤ 1000000) (hT : T ≤ 1000000) (hnl : st.notes.length ≤ 1000000) (hfu : st.fuel ≤ 1000000) (hus : st.used ≤ 1000000) (hfl : fs.length ≤ 1000000) (hft : ∀ f ∈ fs, f.2.length ≤ T) :
    Calls Tryz.prog 54 #[.pointer (some ⟨bw, 0, none⟩)] w fun e w' => e = .returned (.tuple #[]) ∧ Wx M w' bw vf fs most (Ex.doInclude fs most st) ∧ Below bw w w' := by
  have HW := Lib.hid (word8_any 1 (by decide) w h (by have := hok.inl; omega) (z := 1) rfl)
  have HK := Lib.hid h
  have HLT := Lib.hid h.lt
  have HOK := Lib.hid hok
  clear h hok
  cases hw : (W8 st.inn 1).2.2.2
  · have HD : Hid (Ex.doInclude fs most st = Ex.note st 10 Ex.sInc) := Lib.hid (by unfold Ex.doInclude; rw [w8_not (by decide) hw (by decide)])
    have HNT : Hid (∀ W, Wx M W bw vf fs most st → Calls Tryz.prog 20 #[.pointer (some ⟨bw, 0, none⟩), .int .i64 10, .string (S [105, 110, 99, 108, 117, 100, 101])] W fun e w' => e = .returned (.tuple #[]) ∧ Wx M w' bw vf fs most (Ex.note st 10 Ex.sInc) ∧ Below bw W w') := Lib.hid fun W hW => note8_any 10 [105, 110, 99, 108, 117, 100, 101] W hW hnl
    rw [hw] at HW
    clear hw hfl hft
    go_enter Tryz.func54, Tryz.ntmps54
    simp only [S_lit]
    go_wp2_with (first
      | (go_at_call 51; (with_reducible refine HW.out.mono ?_); rintro e w1 ⟨v, rfl, ox, b1⟩)
      | (go_at_call 20; (with_reducible refine (HNT.out _ (HK.out.below b1)).mono ?_); rintro e w3 ⟨rfl, k3, b3⟩)
      | fail)
    (try simp only [Exit.inBlock, Exit.then])
    exact bodyPost_ret (results_none rfl _ _ _) rfl ⟨rfl, by rw [HD.out]; exact k3, (b1.mono (Nat.le_of_lt HLT.out)).trans b3⟩
  · obtain ⟨g, tq, eW, hgr, htq, hgl, hgin⟩ := w8_one hw
    have hnm0 := word_len hgin HOK.out.int
    obtain ⟨nm, hnm⟩ : ∃ n, n = (wordOf g).1 := ⟨_, rfl⟩
    rw [← hnm] at eW hgr hnm0
    rw [eW] at HW
    obtain ⟨st2, hst2⟩ : ∃ s, s = { st with inn := st.inn.drop tq } := ⟨_, rfl⟩
    have HD : Hid (Ex.doInclude fs most st = Ex.incl fs most st2 nm) := Lib.hid (by unfold Ex.doInclude; rw [hgr, hst2]; rfl)
    have HST : Hid (st2.notes = st.notes ∧ st2.reads = st.reads ∧ st2.fuel = st.fuel ∧ st2.used = st.used ∧ st2.inn.length ≤ st.inn.length) := Lib.hid (by rw [hst2]; exact ⟨rfl, rfl, rfl, rfl, by simp only [List.length_drop]; omega⟩)
    obtain ⟨vin, vm, vL, vR, vN, ps, h1, h2⟩ := HK.out
    have hi0 : 0 < st.inn.length := by omega
    obtain ⟨bi, oi, ci, rfl, hci, hrest⟩ := h2.rest hi0 htq
    have HB1 := Lib.hid h1
    obtain ⟨LI, hLI⟩ : ∃ LI, LI = st.inn.length := ⟨_, rfl⟩
    rw [← hLI] at hci hrest htq
    have hl2 : (tq : Int) ≤ (LI : Int) := by omega
    have hc2 : (LI : Int) ≤ (ci : Int) := by omega
    obtain ⟨vi2, hvi2⟩ : ∃ v, v = Value.slice (if ci = tq then some ⟨bi, oi, none⟩ else some ⟨bi, oi + tq * 2, none⟩) (LI - tq) (ci - tq) := ⟨_, rfl⟩
    rw [← hvi2, ← hst2] at hrest
    have HV := Lib.hid hvi2
    have HRE := Lib.hid hrest
    have HLI := Lib.hid hLI
    clear hvi2 hrest hLI h1 h2 hgr hgl hgin hnm eW hw hst2
    go_enter Tryz.func54, Tryz.ntmps54
    simp only [S_lit]
    go_upto_region 3 with (first
      | (go_at_call 51; (with_reducible refine HW.out.mono ?_); rintro e w1 ⟨v, rfl, ox, b1⟩; obtain ⟨ax, cx, rfl⟩ := ox.shape; clear ox)
      | fail)
    have hr1 := HB1.out.kw (Kw.of_below b1) (by have := HB1.out.lt; omega)
    have c1 := hr1.cell (i := 1) rfl
    have f1 := hr1.free 1
    rw [← HLI.out] at c1
    have HR1B := Lib.hid hr1
    have HBB := Lib.hid b1
    clear hr1 b1
    go_upto_region 4 with fail
    rw [← HV.out]
    obtain ⟨W2, hW2⟩ : ∃ W2, W2 = w1.setCell ⟨bw, 1, none⟩ vi2 := ⟨_, rfl⟩
    rw [← hW2]
    have hk2 : Wx M W2 bw vf fs most st2 := by
      rw [hW2]
      exact ⟨vi2, vm, vL, vR, vN, ps, by rw [HST.out.2.2.1, HST.out.2.2.2.1]; exact HR1B.out.set 1 vi2, (HRE.out.below HBB.out).set 1 vi2⟩
    have HB2 : Hid (Below bw w W2) := Lib.hid (by
      rw [hW2]
      have h9 := HBB.out.mono (Nat.le_of_lt HLT.out)
      exact h9.trans ((Kw.set w1 bw 1 vi2).below (fun j e => by omega) (Nat.le_trans (Nat.le_of_lt HLT.out) h9.size)))
    have HK2 := Lib.hid hk2
    have HNM := Lib.hid (refName_any nm (by omega) W2)
    clear hW2 hk2 c1 f1 HR1B HRE HV HLI HB1 HBB hl2 hc2 hci
    have HNL2 : Hid (st2.notes.length ≤ 1000000 ∧ st2.reads.length ≤ 32 ∧ st2.fuel ≤ 1000000 ∧ st2.used ≤ 1000000 ∧ st2.inn.length ≤ 1000000) := Lib.hid ⟨by rw [HST.out.1]; exact hnl, by rw [HST.out.2.1]; exact HOK.out.rln, by rw [HST.out.2.2.1]; exact hfu, by rw [HST.out.2.2.2.1]; exact hus, by have := HST.out.2.2.2.2; have := HOK.out.inl; omega⟩
    cases hok9 : Fi.okName nm
    · rw [hok9] at HNM
      have HI : Hid (Ex.incl fs most st2 nm = Ex.note st2 2 nm) := Lib.hid (by unfold Ex.incl; rw [if_pos hok9])
      have HN := Lib.hid (note8_any 2 nm W2 HK2.out HNL2.out.1)
      clear hok9 hfl hft
      go_wp2_with (first
        | (go_at_call 29; (with_reducible refine HNM.out.mono ?_); rintro e w3 ⟨rfl, rfl⟩)
        | (go_at_call 20; (with_reducible refine HN.out.mono ?_); rintro e w4 ⟨rfl, k4, b4⟩)
        | fail)
      (try simp only [Exit.inBlock, Exit.then])
      exact bodyPost_ret (results_none rfl _ _ _) rfl ⟨rfl, by rw [HD.out, HI.out]; exact k4, HB2.out.trans b4⟩
    · rw [hok9] at HNM
      have HAS := Lib.hid (asked8_any nm W2 HK2.out (by have := HNL2.out.2.1; omega))
      obtain ⟨vin', vm', vL', vR', vN', ps', k1, k2⟩ := HK2.out
      obtain ⟨aR, cR, rfl⟩ := own_shape k2.reads
      have c6 := k1.cell (i := 6) rfl
      obtain ⟨nr, hnr⟩ : ∃ n, n = st2.reads.length := ⟨_, rfl⟩
      rw [← hnr] at c6
      have HNR := Lib.hid hnr
      clear k1 k2 hnr
      cases hct : st2.reads.contains nm
      all_goals rw [hct] at HAS
      all_goals by_cases hr : 32 ≤ nr
      · -- too many
        have HI : Hid (Ex.incl fs most st2 nm = Ex.note st2 3 nm) := Lib.hid (by
          unfold Ex.incl
          rw [if_neg (by rw [hok9]; decide), if_pos ⟨by rw [← HNR.out]; exact hr, hct⟩])
        have HN := Lib.hid (note8_any 3 nm W2 HK2.out HNL2.out.1)
        have hr2 : (32 : Int) ≤ (nr : Int) := by omega
        clear hok9 hct hfl hft hr
        go_wp2_with (first
          | (go_at_call 29; (with_reducible refine HNM.out.mono ?_); rintro e w3 ⟨rfl, rfl⟩)
          | (go_at_call 43; (with_reducible refine HAS.out.mono ?_); rintro e w3 ⟨rfl, rfl⟩)
          | (go_at_call 20; (with_reducible refine HN.out.mono ?_); rintro e w4 ⟨rfl, k4, b4⟩)
          | fail)
        (try simp only [Exit.inBlock, Exit.then])
        exact bodyPost_ret (results_none rfl _ _ _) rfl ⟨rfl, by rw [HD.out, HI.out]; exact k4, HB2.out.trans b4⟩
      all_goals (
        have hcond : ¬ (32 ≤ st2.reads.length ∧ st2.reads.contains nm = false) := by
          rintro ⟨h8, h9⟩
          rw [← HNR.out] at h8
          first
            | exact hr h8
            | (rw [hct] at h9; cases h9)
        have HI : Hid (Ex.incl fs most st2 nm = if st2.fuel = 0 then Ex.note st2 9 nm else if (Fi.get fs nm).2 = false then Ex.note (Ex.ask (Ex.burnt st2) nm) 4 nm else Ex.come most (Ex.ask (Ex.burnt st2) nm) nm (Lx.lex (Fi.get fs nm).1)) := Lib.hid (by
          unfold Ex.incl
          rw [if_neg (by rw [hok9]; decide), if_neg hcond])
        have hr2 : (32 : Int) ≤ (nr : Int) ∨ ¬ (32 : Int) ≤ (nr : Int) := by omega
        have HBU := Lib.hid (burn8_any nm W2 HK2.out HNL2.out.1 HNL2.out.2.2.1 HNL2.out.2.2.2.1)
        clear hok9 hct hcond
        go_upto_region 8 with (first
          | (go_at_call 29; (with_reducible refine HNM.out.mono ?_); rintro e w3 ⟨rfl, rfl⟩)
          | (go_at_call 43; (with_reducible refine HAS.out.mono ?_); rintro e w3 ⟨rfl, rfl⟩)
          | fail)
        clear hr2
        by_cases hf : st2.fuel = 0
        · rw [if_pos hf] at HBU HI
          rw [show decide (st2.fuel ≠ 0) = false by simp [hf]] at HBU
          clear hfl hft hr hf
          go_wp2_with (first
            | (go_at_call 90; (with_reducible refine HBU.out.mono ?_); rintro e w4 ⟨rfl, k4, b4, _⟩)
            | fail)
          (try simp only [Exit.inBlock, Exit.then])
          exact bodyPost_ret (results_none rfl _ _ _) rfl ⟨rfl, by rw [HD.out, HI.out]; exact k4, HB2.out.trans b4⟩
        · rw [if_neg hf] at HBU HI
          rw [show decide (st2.fuel ≠ 0) = true by simp [hf]] at HBU
          have HAK : Hid (∀ W, Wx M W bw vf fs most (Ex.burnt st2) → Calls Tryz.prog 19 #[.pointer (some ⟨bw, 0, none⟩), .string (S nm)] W fun e w' => e = .returned (.tuple #[.string (S (Fi.get fs nm).1), .bool (Fi.get fs nm).2]) ∧ Wx M w' bw vf fs most (Ex.ask (Ex.burnt st2) nm) ∧ Below bw W w') := Lib.hid fun W hW => ask8_any nm W hW hfl (by have := HNL2.out.2.1; show st2.reads.length ≤ _; omega)
          have hgl := get_len hft nm
          obtain ⟨st4, hst4⟩ : ∃ s, s = Ex.ask (Ex.burnt st2) nm := ⟨_, rfl⟩
          obtain ⟨e1, e2, e3⟩ := Ex.ask_same (Ex.burnt st2) nm
          rw [← hst4] at HAK HI e1 e2 e3
          have HS4 : Hid (st4.notes.length ≤ 1000000 ∧ st4.inn.length ≤ 1000000) := Lib.hid ⟨by rw [e3]; exact HNL2.out.1, by rw [e2]; exact HNL2.out.2.2.2.2⟩
          obtain ⟨tx, htx⟩ : ∃ t, t = (Fi.get fs nm).1 := ⟨_, rfl⟩
          obtain ⟨is, his⟩ : ∃ t, t = (Fi.get fs nm).2 := ⟨_, rfl⟩
          rw [← htx, ← his] at HAK HI
          rw [← htx] at hgl
          have htl : tx.length ≤ 1000000 := by omega
          clear hst4 e1 e2 e3 htx his hfl hft hr hf hgl
          go_upto_region 10 with (first
            | (go_at_call 90; (with_reducible refine HBU.out.mono ?_); rintro e w4 ⟨rfl, k4, b4, _⟩)
            | (go_at_call 19; (with_reducible refine (HAK.out _ k4).mono ?_); rintro e w5 ⟨rfl, k5, b5⟩)
            | fail)
          have HB5 : Hid (Below bw w w5) := Lib.hid ((HB2.out.trans b4).trans b5)
          have HK5 := Lib.hid k5
          clear b4 b5 k4 k5
          cases is
          · rw [if_pos rfl] at HI
            have HN := Lib.hid (note8_any 4 nm w5 HK5.out HS4.out.1)
            go_wp2_with (first
              | (go_at_call 20; (with_reducible refine HN.out.mono ?_); rintro e w6 ⟨rfl, k6, b6⟩)
              | fail)
            (try simp only [Exit.inBlock, Exit.then])
            exact bodyPost_ret (results_none rfl _ _ _) rfl ⟨rfl, by rw [HD.out, HI.out]; exact k6, HB5.out.trans b6⟩
          · rw [if_neg (by decide)] at HI
            obtain ⟨vi5, vm5, vL5, vR5, vN5, ps5, y1, y2⟩ := HK5.out
            obtain ⟨ai5, ci5, rfl⟩ := y2.inn.shape
            have HIN := Lib.hid y2.inn
            have HY1 := Lib.hid y1
            have HC1 : Hid (∀ W, Below w5.heap.size w5 W → W.cell? ⟨bw, 1, none⟩ = some (.slice ai5 st4.inn.length ci5)) := Lib.hid fun W hb => (HY1.out.kw (Kw.of_below hb) (by have := HY1.out.lt; omega)).cell (i := 1) rfl
            have HLX := Lib.hid fun W => refLex_any tx (by omega) W
            obtain ⟨lx, hlx⟩ : ∃ l, l = Lx.lex tx := ⟨_, rfl⟩
            have hlxl := lex_len tx
            rw [← hlx] at HLX HI hlxl
            have HCM : Hid (∀ W v, Below w5.heap.size w5 W → Rt W v lx → Calls Tryz.prog 91 #[.pointer (some ⟨bw, 0, none⟩), .string (S nm), v, .slice ai5 st4.inn.length ci5] W fun e w' => e = .returned (.tuple #[]) ∧ Wx M w' bw vf fs most (Ex.come most st4 nm lx) ∧ Below bw W w') := Lib.hid fun W v hb hv => come8_any nm lx W (HK5.out.below hb) hv (HIN.out.below' hb) (by omega) (by have := HS4.out.2; omega) HS4.out.1
            have bd : Below w5.heap.size w5 w5.drew := below_drewN (Below.refl w5.heap.size w5) 1
            have d1 := HC1.out _ (Below.refl _ _)
            have d2 := HC1.out _ bd
            clear y1 y2 hlx
            go_upto_region 12 with fail
            go_region_with (first
              | (go_at_call 21; (with_reducible refine (HLX.out _).mono ?_); rintro e w6 ⟨v6, rfl, o6, b6⟩; have b56 := bd.trans (b6.mono bd.size); have d6 := HC1.out _ b56; have r6 : Rt w6 v6 lx := own_rd o6)
              | (go_at_call 91; (with_reducible refine (HCM.out _ _ b56 r6).mono ?_); rintro e w7 ⟨rfl, k7, b7⟩)
              | fail)
            all_goals (
              go_wp2_with fail
              go_end0
              exact ⟨rfl, by rw [HD.out, HI.out]; exact k7, (HB5.out.trans (b56.mono (Nat.le_of_lt HY1.out.lt))).trans b7⟩))
end Go.Proofs.YtjfikkjaifdkiaaGreatDoor
