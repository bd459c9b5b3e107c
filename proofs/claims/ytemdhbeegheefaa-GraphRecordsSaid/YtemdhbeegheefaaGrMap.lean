
/- The edges between groups, as a map's keys. No condition. -/
import Derived.Test.YtemdhbeegheefaaGrKahn
import Derived.Test.YtemdhbeegheefaaProg
import Derived.WalkKit
import Derived.Lib.Hide
import Derived.Maps.OwnSet
import Derived.Maps.RangeWalk
import Derived.DeepKeys4
import Derived.WideKeyEntry
namespace Go.Proofs.Ytemdhbeegheefaa
open Go.RowKit Go.Maps Go.WideMaps Go.ChangeMaps Gr


theorem laidOutG : laidOutB Try.prog = true := by kernel_rfl
theorem edgeUnd : ∃ fs, Try.prog.underlying 52 = some (.struct fs) := ⟨_, Try.underlying52⟩
theorem edgeRow : 52 < Try.prog.types.size := of_decide_eq_true (by kernel_rfl)
theorem edgeKeyLaw : KeyLaw Try.prog 52 := deep_law_laid laidOutG (m := 2) (by omega) edgeRow (by kernel_rfl) (by rw [Try.underlying52])
theorem edgeLaw : Keyed Try.prog 52 := Keyed.of_law edgeKeyLaw
theorem edgeCells : Try.prog.cellsOf 52 = 2 := by kernel_rfl
theorem intCells : Try.prog.cellsOf 3 = 1 := by kernel_rfl
theorem edgeKeyT : Try.prog.keyType 52 = true := by kernel_rfl

/-- An edge, as a key's value. -/
def ev (a c : Int) : Value := .agg #[.int .i64 a, .int .i64 c]
/-- What it reads as. -/
def ek (a c : Int) : Lit := .string (keyBytes [.int .i64 a, .int .i64 c])
theorem sizeSome : ∃ m, Try.prog.types.size = m + 1 := ⟨Try.prog.types.size - 1, by have : 0 < Try.prog.types.size := of_decide_eq_true (by kernel_rfl); omega⟩
theorem ek_key {a c : Int} (ha : (Lit.int .i64 a).wf = true) (hc : (Lit.int .i64 c).wf = true) : keyOf Try.prog 52 (ev a c) = some (ek a c) := by
  obtain ⟨m, hm⟩ := sizeSome
  unfold keyOf ev
  simp only [Try.underlying52]
  rw [if_pos (by simp [edgeKeyT, Value.formed, Try.underlying52, edgeCells]), hm]
  simp [Program.keyLits, Try.underlying52, Try.underlying3, Value.cells, edgeCells, intCells, ha, hc, ek]
set_option maxRecDepth 20000 in
theorem ek_inv {key : Value} {kl : Lit} (h : keyOf Try.prog 52 key = some kl) : ∃ x : Int × Int, key = ev x.1 x.2 ∧ kl = ek x.1 x.2 ∧ (Lit.int .i64 x.1).wf = true ∧ (Lit.int .i64 x.2).wf = true := by
  obtain ⟨m, hm⟩ := sizeSome
  unfold keyOf at h
  simp only [Try.underlying52] at h
  split at h
  case isFalse => cases h
  case isTrue hf =>
    rw [Bool.and_eq_true] at hf
    obtain ⟨cs, rfl, hcs⟩ : ∃ cs : Array Value, key = .agg cs ∧ cs.size = 2 := by
      have hf2 := hf.2
      unfold Value.formed at hf2
      rw [Try.underlying52] at hf2
      cases key with
      | agg cs => exact ⟨cs, rfl, by rw [edgeCells] at hf2; simpa using hf2⟩
      | _ => exact (Bool.false_ne_true hf2).elim
    obtain ⟨x, y, rfl⟩ : ∃ x y, cs = #[x, y] := by
      obtain ⟨l⟩ := cs
      match l, hcs with
      | [x, y], _ => exact ⟨x, y, rfl⟩
    rw [hm] at h
    simp [Program.keyLits, Try.underlying52, Try.underlying3, Value.cells, edgeCells, intCells] at h
    cases x with
    | int q a =>
      by_cases h1 : q = .i64 ∧ (Lit.int .i64 a).wf = true
      · obtain ⟨rfl, h1⟩ := h1
        cases y with
        | int q2 c =>
          by_cases h2 : q2 = .i64 ∧ (Lit.int .i64 c).wf = true
          · obtain ⟨rfl, h2⟩ := h2
            simp [h1, h2] at h
            exact ⟨(a, c), rfl, by rw [← h]; rfl, h1, h2⟩
          · simp [h1, h2] at h
        | _ => simp [h1] at h
      · simp [h1] at h
    | _ => simp at h
theorem ek_inj {a c x y : Int} (ha : (Lit.int .i64 a).wf = true) (hc : (Lit.int .i64 c).wf = true) (hx : (Lit.int .i64 x).wf = true) (hy : (Lit.int .i64 y).wf = true) (h : ek a c = ek x y) : a = x ∧ c = y := by
  have := edgeLaw.inj (ek_key ha hc) (h ▸ ek_key hx hy)
  simp [ev] at this
  exact this
theorem wfN {a : Nat} (h : a ≤ 1000000) : (Lit.int .i64 (a : Int)).wf = true := WalkArith.wf_i64 (by omega)

/-- Block b is the map of edges: its keys are these. -/
def Em (w : World) (b n : Nat) (p : Nat → Nat → Prop) : Prop :=
  ∃ D : DataW Unit, w.ownsMap Try.prog 52 (plainElem Try.prog 3) b n D ∧ ∀ kl, Maps.has D kl = true ↔ ∃ a c : Nat, a ≤ 1000000 ∧ c ≤ 1000000 ∧ kl = ek a c ∧ p a c
theorem Em.made (w : World) : Em (w.alloc (.map #[] 0)) w.heap.size 0 (fun _ _ => False) :=
  ⟨.map [], World.ownsMap_made _ _ _ _, fun kl => by simp [Maps.has]⟩
theorem Em.congr {w : World} {b n : Nat} {p q : Nat → Nat → Prop} (h : Em w b n p) (hq : ∀ a c, p a c ↔ q a c) : Em w b n q := by
  obtain ⟨D, h1, h2⟩ := h
  exact ⟨D, h1, fun kl => (h2 kl).trans ⟨fun ⟨a, c, x, y, z, t⟩ => ⟨a, c, x, y, z, (hq a c).1 t⟩, fun ⟨a, c, x, y, z, t⟩ => ⟨a, c, x, y, z, (hq a c).2 t⟩⟩⟩
theorem Em.at {w w' : World} {b n : Nat} {p : Nat → Nat → Prop} (h : Em w b n p) (hb : w'.heap[b]? = w.heap[b]?) : Em w' b n p := by
  obtain ⟨D, ⟨es, clock, h1, h2⟩, h3⟩ := h
  exact ⟨D, ⟨es, clock, hb.trans h1, h2⟩, h3⟩
theorem zeroI (w : World) : (zeroValue 3).run Try.prog w = .ok (.int .i64 0) w := by kernel_rfl
theorem ranges_at {H : Type} {P : Program} {k : TypeId} {R : Value → Option (DataW H × List MemPlace)} {w w' : World} {b r n : Nat} {D : DataW H} {left : Lit → Bool} {cnt : Nat} (h : w.ranges P k R b r n D left cnt) (hb' : w'.heap[b]? = w.heap[b]?) (hr' : w'.heap[r]? = w.heap[r]?) : w'.ranges P k R b r n D left cnt := by
  obtain ⟨es, clock, since, seen, c0, hb, F, hs, hD, hr, rest⟩ := h
  exact ⟨es, clock, since, seen, c0, hb'.trans hb, F, hs, hD, hr'.trans hr, rest⟩
/-- One edge has come: which ones are left. -/
theorem left_step {left : Lit → Bool} {q : Nat → Nat → Prop} {ps : List (Nat × Nat)} (h : ∀ kl, left kl = true ↔ ∃ a c : Nat, a ≤ 1000000 ∧ c ≤ 1000000 ∧ kl = ek a c ∧ q a c ∧ (a, c) ∉ ps) {ea ec : Nat} (ha : ea ≤ 1000000) (hc : ec ≤ 1000000) :
    ∀ kl, (left kl && !kl.sameKey (ek ea ec)) = true ↔ ∃ a c : Nat, a ≤ 1000000 ∧ c ≤ 1000000 ∧ kl = ek a c ∧ q a c ∧ (a, c) ∉ ps ++ [(ea, ec)] := by
  intro kl
  rw [Bool.and_eq_true, h kl]
  constructor
  · rintro ⟨⟨a, c, h1, h2, rfl, h4, h5⟩, h6⟩
    refine ⟨a, c, h1, h2, rfl, h4, fun hm => ?_⟩
    rcases List.mem_append.1 hm with hm | hm
    · exact h5 hm
    · have he := List.mem_singleton.1 hm
      injection he with e1 e2
      subst e1 e2
      rw [WideAt.sameKey_self (edgeLaw.key (ek_key (wfN h1) (wfN h2)))] at h6
      simp at h6
  · rintro ⟨a, c, h1, h2, rfl, h4, h5⟩
    refine ⟨⟨a, c, h1, h2, rfl, h4, fun hm => h5 (List.mem_append_left _ hm)⟩, ?_⟩
    rw [Maps.sameKey_ne fun e => ?_]
    · rfl
    · obtain ⟨e1, e2⟩ := ek_inj (wfN h1) (wfN h2) (wfN ha) (wfN hc) e
      exact h5 (List.mem_append_right _ (by simp; omega))
/-- Where an entry has been laid, the element is what it was. -/
theorem entry_look {w w2 : World} {b : Nat} {es : Array MapEntry} {clock : Nat} {a c m : Int} {u : Value} (hb : w.heap[b]? = some (.map es clock)) (F : WideElems.Fit Try.prog 52 (plainElem (H := Unit) Try.prog 3) es clock) (hkey : keyOf Try.prog 52 (ev a c) = some (ek a c))
    (hl : (Instr.lookup 49 (.map (some b)) (ev a c) false).run Try.prog w = .ok (.int .i64 m) w) (he : (Instr.mapEntry 49 (.map (some b)) (ev a c)).run Try.prog w = .ok u w2) :
    (Instr.lookup 49 (.map (some b)) (ev a c) false).run Try.prog w2 = .ok (.int .i64 m) w2 := by
  have ht := Try.underlying49
  rcases edgeLaw.find w hkey es.toList F.keys with ⟨h1, h2⟩ | ⟨j, e0, h1, h2, h3⟩
  · have e1 : (Instr.lookup 49 (.map (some b)) (ev a c) false).run Try.prog w = .ok (.int .i64 0) w := by
      simp [Instr.lookup, run_underlying ht, MapKept.run_getObj_map hb, edgeLaw.check w _ hkey, h1, Result.andThen]
    have e2 : (Instr.mapEntry 49 (.map (some b)) (ev a c)).run Try.prog w = .ok (.tuple #[.int .i64 0, goInt clock]) (setBlock w b (.map (es.push ⟨ev a c, .int .i64 0, clock⟩) (clock + 1))) := by
      simp [Instr.mapEntry, run_underlying ht, MapKept.run_getObj_map hb, edgeLaw.check w false hkey, h1, MapKept.run_setObj_map _ hb, Result.andThen, setBlock]
    have em : m = 0 := by have h9 := e1.symm.trans hl; simp only [Result.ok.injEq, Value.int.injEq] at h9; exact h9.1.2.symm
    have ew : w2 = setBlock w b (.map (es.push ⟨ev a c, .int .i64 0, clock⟩) (clock + 1)) := by have h9 := e2.symm.trans he; simp only [Result.ok.injEq] at h9; exact h9.2.symm
    have hb2 : w2.heap[b]? = some (.map (es.push ⟨ev a c, .int .i64 0, clock⟩) (clock + 1)) := by rw [ew]; exact heap_setBlock_same hb _
    rcases edgeLaw.find w2 hkey (es.push ⟨ev a c, .int .i64 0, clock⟩).toList (fun x hx => by
      simp only [Array.toList_push, List.mem_append, List.mem_singleton] at hx
      rcases hx with hx | rfl
      · exact F.keys x hx
      · exact ⟨_, hkey⟩) with ⟨k1, k2⟩ | ⟨j, e0, k1, k2, k3⟩
    · exact absurd rfl (k2 ⟨ev a c, .int .i64 0, clock⟩ (by simp))
    · have hv : e0.val = .int .i64 0 := by
        have := List.mem_of_getElem? k2
        simp only [Array.toList_push, List.mem_append, List.mem_singleton] at this
        rcases this with hx | rfl
        · exact absurd k3 (h2 e0 hx)
        · rfl
      rw [em]
      rw [hv, Array.toList_push] at k1
      simp [Instr.lookup, run_underlying ht, MapKept.run_getObj_map hb2, edgeLaw.check w2 _ hkey, k1, Result.andThen]
  · have hj : es[j]? = some e0 := by simpa using h2
    have hsame : es.modify j (fun e => { e with key := ev a c }) = es := by
      apply Array.ext'
      rw [Array.toList_modify]
      apply List.ext_getElem?
      intro i
      rw [List.getElem?_modify]
      by_cases hi : j = i
      · subst hi
        rw [h2]
        simp [← h3]
      · simp [hi]
    have e2 : (Instr.mapEntry 49 (.map (some b)) (ev a c)).run Try.prog w = .ok (.tuple #[e0.val, goInt e0.born]) (setBlock w b (.map es clock)) := by
      simp [Instr.mapEntry, run_underlying ht, MapKept.run_getObj_map hb, edgeLaw.check w false hkey, h1, hj, h3, edgeLaw.stays w hkey, hsame, MapKept.run_setObj_map _ hb, Result.andThen, setBlock]
    have ew : w2 = w := by
      have h9 := e2.symm.trans he
      simp only [Result.ok.injEq] at h9
      rw [← h9.2]
      have e : w.heap.setIfInBounds b (.map es clock) = w.heap := by
        apply Array.ext_getElem?
        intro i
        by_cases hi : i = b
        · subst hi
          exact (heap_setBlock_same hb _).trans hb.symm
        · exact heap_setBlock_other hb _ hi
      unfold setBlock
      rw [e]
    rw [ew]; exact hl
/-- 'm[k]++'. -/
theorem Em.bump {w : World} {b n : Nat} {p : Nat → Nat → Prop} (h : Em w b n p) (hn : n < 10000000) (a c : Nat) (ha : a ≤ 1000000) (hc : c ≤ 1000000) :
    ∃ (m : Int) (v0 : Value) (st : Nat) (w2 w3 : World), (Instr.lookup 49 (.map (some b)) (ev a c) false).run Try.prog w = .ok (.int .i64 m) w ∧ (Instr.mapEntry 49 (.map (some b)) (ev a c)).run Try.prog w = .ok (.tuple #[v0, .int .i64 st]) w2 ∧
      (Instr.lookup 49 (.map (some b)) (ev a c) false).run Try.prog w2 = .ok (.int .i64 m) w2 ∧ (Instr.entryStore 49 (.map (some b)) (.int .i64 st) (.int .i64 (wrap64 (m + 1)))).run Try.prog w2 = .ok () w3 ∧
      Em w3 b (n + 1) (fun x y => p x y ∨ (x = a ∧ y = c)) ∧ w.grownBy w3 (some b) := by
  obtain ⟨D, h1, h2⟩ := h
  have hkey := ek_key (wfN ha) (wfN hc)
  obtain ⟨m, l1, l2, l3⟩ := h1.lookup_int edgeLaw Try.underlying49 Try.underlying3 (zeroI w) hkey
  obtain ⟨es, clock, hb, F, hs, rfl⟩ := h1
  obtain ⟨v0, st, es1, clock1, e1, _, e3⟩ := WideElems.entry_then_store edgeKeyLaw Try.underlying49 zeroI hb F hkey
  obtain ⟨es', clock', s1, s2⟩ := e3 (setBlock w b (.map es1 clock1)) (.int .i64 (wrap64 (m + 1))) (heap_setBlock_same hb _)
  obtain ⟨w3, u1, u2, u3⟩ := World.ownsMap.update (R := plainElem Try.prog 3) ⟨es, clock, hb, F, hs, rfl⟩ edgeLaw Try.underlying49 (by unfold maxLen; omega) hkey (plainElem_int Try.underlying3 (a := wrap64 (m + 1)) (wrap64_wf _))
  have hw3 : setBlock (setBlock w b (.map es1 clock1)) b (.map es' clock') = w3 := by
    rw [s2] at u1
    have : setBlock (setBlock w b (.map es1 clock1)) b (.map es' clock') = setBlock w b (.map es' clock') := by simp [setBlock]
    rw [this]
    injection u1
  refine ⟨m, v0, st, _, w3, l1, e1, ?_, hw3 ▸ s1, ⟨_, u2, fun kl => ?_⟩, u3⟩
  · exact entry_look hb F hkey l1 e1
  · by_cases he : kl = ek a c
    · subst he
      rw [Maps.has_put_same ⟨_, rfl⟩ (edgeLaw.key hkey)]
      exact ⟨fun _ => ⟨a, c, ha, hc, rfl, .inr ⟨rfl, rfl⟩⟩, fun _ => rfl⟩
    · rw [Maps.has_put_other he, h2 kl]
      constructor
      · rintro ⟨x, y, hx, hy, e, hp⟩
        exact ⟨x, y, hx, hy, e, .inl hp⟩
      · rintro ⟨x, y, hx, hy, e, hp | ⟨rfl, rfl⟩⟩
        · exact ⟨x, y, hx, hy, e, hp⟩
        · exact absurd e he
end Go.Proofs.Ytemdhbeegheefaa
