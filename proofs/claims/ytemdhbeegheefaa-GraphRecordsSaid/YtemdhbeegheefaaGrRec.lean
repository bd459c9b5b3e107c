
/- Records in memory: what was read, what was written. No condition. -/
import Derived.Test.YtemdhbeegheefaaGrHeap
import Derived.Deep.Grids
namespace Go.Proofs.Ytemdhbeegheefaa
open Go.RowKit

/-- What was read: a name, whether it is, a text. A file: a name, a text. A record: a rule, reads, writes. -/
abbrev Sn := List UInt8 × Bool × List UInt8
abbrev Fz := List UInt8 × List UInt8
abbrev Rcd := List UInt8 × List Sn × List Fz
def sc (s : Sn) : List Value := [.string (S s.1), .bool s.2.1, .string (S s.2.2)]
def scs (l : List Sn) : List Value := l.flatMap sc
def fzc (f : Fz) : List Value := [.string (S f.1), .string (S f.2)]
def fzs (l : List Fz) : List Value := l.flatMap fzc
/-- A record's cells, with where its reads and its writes lie. -/
def rc (p : Rcd × Value × Value) : List Value := [.string (S p.1.1), p.2.1, p.2.2]
def rcs (ps : List (Rcd × Value × Value)) : List Value := ps.flatMap rc
theorem flatk {α : Type} {k : Nat} (f : α → List Value) (hf : ∀ x, (f x).length = k) (l : List α) : (l.flatMap f).length = l.length * k := by
  induction l with
  | nil => simp
  | cons t l ih => rw [List.flatMap_cons, List.length_append, hf, ih, List.length_cons, Nat.succ_mul, Nat.add_comm]
theorem flatk_at {α : Type} {k : Nat} (f : α → List Value) (hf : ∀ x, (f x).length = k) (l : List α) (i : Nat) (h : i < l.length) (j : Nat) (hj : j < k) : (l.flatMap f)[i * k + j]? = (f l[i])[j]? := by
  induction l generalizing i with
  | nil => simp at h
  | cons t l ih =>
    rw [List.flatMap_cons]
    cases i with
    | zero => rw [Nat.zero_mul, Nat.zero_add, List.getElem?_append_left (by rw [hf]; exact hj)]; rfl
    | succ i =>
      rw [List.getElem?_append_right (by rw [hf, Nat.succ_mul]; omega), hf, show (i + 1) * k + j - k = i * k + j by rw [Nat.succ_mul]; omega]
      exact ih i (by simpa using h)
theorem scs_length (l : List Sn) : (scs l).length = l.length * 3 := flatk (k := 3) sc (fun _ => rfl) l
theorem fzs_length (l : List Fz) : (fzs l).length = l.length * 2 := flatk (k := 2) fzc (fun _ => rfl) l
theorem rcs_length (l : List (Rcd × Value × Value)) : (rcs l).length = l.length * 3 := flatk (k := 3) rc (fun _ => rfl) l
theorem scs_snoc (a : List Sn) (s : Sn) : scs (a ++ [s]) = scs a ++ sc s := by simp [scs]
theorem fzs_snoc (a : List Fz) (s : Fz) : fzs (a ++ [s]) = fzs a ++ fzc s := by simp [fzs]
theorem rcs_snoc (a : List (Rcd × Value × Value)) (s : Rcd × Value × Value) : rcs (a ++ [s]) = rcs a ++ rc s := by simp [rcs]

/-- v reads as these. -/
def Rsn (w : World) (v : Value) (l : List Sn) : Prop := Rd w 3 v l.length (scs l)
def Rfz (w : World) (v : Value) (l : List Fz) : Prop := Rd w 2 v l.length (fzs l)
theorem Rsn.below' {w w' : World} {v : Value} {l : List Sn} (h : Rsn w v l) (hb : Below w.heap.size w w') : Rsn w' v l := Rd.below' h hb
theorem Rfz.below' {w w' : World} {v : Value} {l : List Fz} (h : Rfz w v l) (hb : Below w.heap.size w w') : Rfz w' v l := Rd.below' h hb
theorem Rsn.shape {w : World} {v : Value} {l : List Sn} (h : Rsn w v l) : ∃ a c, v = .slice a l.length c := Rd.shape h
theorem Rfz.shape {w : World} {v : Value} {l : List Fz} (h : Rfz w v l) : ∃ a c, v = .slice a l.length c := Rd.shape h
theorem Rsn.at {w : World} {a : Option Addr} {n c : Nat} {l : List Sn} (h : Rsn w (.slice a n c) l) {i : Nat} (hi : i < l.length) :
    ∃ b o, a = some ⟨b, o, none⟩ ∧ w.cell? ⟨b, o + i * 3, none⟩ = some (.string (S l[i].1)) ∧ w.cell? ⟨b, o + i * 3 + 1, none⟩ = some (.bool l[i].2.1) ∧ w.cell? ⟨b, o + i * 3 + 2, none⟩ = some (.string (S l[i].2.2)) ∧ b < w.heap.size := by
  rcases h.2 with ⟨_, h2⟩ | ⟨b, o, cap, hv, hlt, hc, _⟩
  · omega
  · cases hv
    have k := flatk_at (k := 3) sc (fun _ => rfl) l i hi
    exact ⟨b, o, rfl, hc (i * 3) _ (k 0 (by omega)), hc _ _ (k 1 (by omega)), hc _ _ (k 2 (by omega)), hlt (by omega)⟩
theorem Rfz.at {w : World} {a : Option Addr} {n c : Nat} {l : List Fz} (h : Rfz w (.slice a n c) l) {i : Nat} (hi : i < l.length) :
    ∃ b o, a = some ⟨b, o, none⟩ ∧ w.cell? ⟨b, o + i * 2, none⟩ = some (.string (S l[i].1)) ∧ w.cell? ⟨b, o + i * 2 + 1, none⟩ = some (.string (S l[i].2)) ∧ b < w.heap.size := by
  rcases h.2 with ⟨_, h2⟩ | ⟨b, o, cap, hv, hlt, hc, _⟩
  · omega
  · cases hv
    have k := flatk_at (k := 2) fzc (fun _ => rfl) l i hi
    exact ⟨b, o, rfl, hc (i * 2) _ (k 0 (by omega)), hc _ _ (k 1 (by omega)), hlt (by omega)⟩
theorem rsn_own {w : World} {B T : Nat} {v : Value} {l : List Sn} (h : w.ownsRow B T 3 v l.length (scs l)) : Rsn w v l := own_rd h
theorem rfz_own {w : World} {B T : Nat} {v : Value} {l : List Fz} (h : w.ownsRow B T 2 v l.length (fzs l)) : Rfz w v l := own_rd h
theorem Rsn.nil (w : World) : Rsn w (.slice none 0 0) [] := ⟨rfl, .inl ⟨.inl rfl, rfl⟩⟩
theorem Rfz.nil (w : World) : Rfz w (.slice none 0 0) [] := ⟨rfl, .inl ⟨.inl rfl, rfl⟩⟩

/-- v reads as these records. -/
def Rr (w : World) (v : Value) (l : List Rcd) : Prop :=
  ∃ ps : List (Rcd × Value × Value), ps.map (·.1) = l ∧ Rd w 3 v ps.length (rcs ps) ∧ ∀ p ∈ ps, Rsn w p.2.1 p.1.2.1 ∧ Rfz w p.2.2 p.1.2.2
theorem Rr.below' {w w' : World} {v : Value} {l : List Rcd} (h : Rr w v l) (hb : Below w.heap.size w w') : Rr w' v l := by
  obtain ⟨ps, h1, h2, h3⟩ := h
  exact ⟨ps, h1, h2.below' hb, fun p hp => ⟨(h3 p hp).1.below' hb, (h3 p hp).2.below' hb⟩⟩
theorem Rr.shape {w : World} {v : Value} {l : List Rcd} (h : Rr w v l) : ∃ a c, v = .slice a l.length c := by
  obtain ⟨ps, rfl, h2, _⟩ := h
  rw [List.length_map]
  exact h2.shape
theorem Rr.at {w : World} {a : Option Addr} {n c : Nat} {l : List Rcd} (h : Rr w (.slice a n c) l) {i : Nat} (hi : i < l.length) :
    ∃ b o vr vw, a = some ⟨b, o, none⟩ ∧ w.cell? ⟨b, o + i * 3, none⟩ = some (.string (S l[i].1)) ∧ w.cell? ⟨b, o + i * 3 + 1, none⟩ = some vr ∧ w.cell? ⟨b, o + i * 3 + 2, none⟩ = some vw ∧ Rsn w vr l[i].2.1 ∧ Rfz w vw l[i].2.2 ∧ b < w.heap.size := by
  obtain ⟨ps, rfl, h2, h3⟩ := h
  rw [List.length_map] at hi
  rcases h2.2 with ⟨_, h0⟩ | ⟨b, o, cap, hv, hlt, hc, _⟩
  · omega
  · cases hv
    have k := flatk_at (k := 3) rc (fun _ => rfl) ps i hi
    have h4 := h3 ps[i] (List.getElem_mem hi)
    rw [List.getElem_map]
    exact ⟨b, o, _, _, rfl, hc (i * 3) _ (k 0 (by omega)), hc _ _ (k 1 (by omega)), hc _ _ (k 2 (by omega)), h4.1, h4.2, hlt (by omega)⟩

/-- The call owns the row of records; what they hold lies elsewhere. -/
def OwR (w : World) (B : Nat) (T : TypeId) (v : Value) (l : List Rcd) : Prop :=
  ∃ ps : List (Rcd × Value × Value), ps.map (·.1) = l ∧ w.ownsRow B T 3 v ps.length (rcs ps) ∧ ∀ p ∈ ps, (Rsn w p.2.1 p.1.2.1 ∧ Rfz w p.2.2 p.1.2.2) ∧ (0 < p.1.2.1.length → ∀ b, p.2.1.ownBlock = some b → b < w.heap.size ∧ v.ownBlock ≠ some b) ∧ (0 < p.1.2.2.length → ∀ b, p.2.2.ownBlock = some b → b < w.heap.size ∧ v.ownBlock ≠ some b)
theorem OwR.rr {w : World} {B : Nat} {T : TypeId} {v : Value} {l : List Rcd} (h : OwR w B T v l) : Rr w v l := by
  obtain ⟨ps, h1, h2, h3⟩ := h
  exact ⟨ps, h1, own_rd h2, fun p hp => (h3 p hp).1⟩
theorem OwR.below' {w w' : World} {B : Nat} {T : TypeId} {v : Value} {l : List Rcd} (h : OwR w B T v l) (hb : Below w.heap.size w w') : OwR w' B T v l := by
  obtain ⟨ps, h1, h2, h3⟩ := h
  exact ⟨ps, h1, own_below h2 (own_under h2) hb, fun p hp => ⟨⟨(h3 p hp).1.1.below' hb, (h3 p hp).1.2.below' hb⟩, fun h0 b e => ⟨Nat.lt_of_lt_of_le ((h3 p hp).2.1 h0 b e).1 hb.size, ((h3 p hp).2.1 h0 b e).2⟩, fun h0 b e => ⟨Nat.lt_of_lt_of_le ((h3 p hp).2.2 h0 b e).1 hb.size, ((h3 p hp).2.2 h0 b e).2⟩⟩⟩
theorem OwR.shape {w : World} {B : Nat} {T : TypeId} {v : Value} {l : List Rcd} (h : OwR w B T v l) : ∃ a c, v = .slice a l.length c := by
  obtain ⟨ps, rfl, h2, _⟩ := h
  rw [List.length_map]
  exact own_shape h2
theorem OwR.under {w : World} {B : Nat} {T : TypeId} {v : Value} {l : List Rcd} (h : OwR w B T v l) : ∀ b, v.ownBlock = some b → B ≤ b ∧ b < w.heap.size := by
  obtain ⟨ps, _, h2, _⟩ := h
  exact fun b hb => h2.lt b hb
theorem OwR.made (w : World) (B : Nat) (T : TypeId) (hB : B ≤ w.heap.size) : OwR (w.alloc (.cells #[] T)) B T (.slice (some ⟨w.heap.size, 0, none⟩) 0 0) [] :=
  ⟨[], rfl, World.ownsRow_made w #[] 0 hB (by decide) rfl, by simp⟩

theorem Rd.apart {w w' : World} {row : Option Nat} {k n : Nat} {v : Value} {cs : List Value} (h : Rd w k v n cs) (hg : w.grownBy w' row) (hne : 0 < n → ∀ b, v.ownBlock = some b → some b ≠ row) : Rd w' k v n cs := by
  by_cases h0 : 0 < n
  · exact h.grown hg (hne h0)
  · refine ⟨h.1, .inl ?_⟩
    rcases h.2 with h2 | ⟨b, o, cap, hv, _⟩
    · exact h2
    · have hn : n = 0 := by omega
      subst hn
      exact ⟨.inr ⟨_, _, hv⟩, rfl⟩

/-- 'v = append(v, r)': r a record. -/
theorem OwR.grow {w1 w' : World} {B : Nat} {e : TypeId} {v v' : Value} {l : List Rcd} {x : Rcd} {ur uw : Value} {ps : List (Rcd × Value × Value)} (hps : ps.map (·.1) = l) (h3 : ∀ p ∈ ps, (Rsn w1 p.2.1 p.1.2.1 ∧ Rfz w1 p.2.2 p.1.2.2) ∧ (0 < p.1.2.1.length → ∀ b, p.2.1.ownBlock = some b → b < w1.heap.size ∧ v.ownBlock ≠ some b) ∧ (0 < p.1.2.2.length → ∀ b, p.2.2.ownBlock = some b → b < w1.heap.size ∧ v.ownBlock ≠ some b))
    (hr : Rsn w1 ur x.2.1) (hw : Rfz w1 uw x.2.2) (hsr : 0 < x.2.1.length → ∀ b, ur.ownBlock = some b → b < w1.heap.size ∧ v.ownBlock ≠ some b) (hsw : 0 < x.2.2.length → ∀ b, uw.ownBlock = some b → b < w1.heap.size ∧ v.ownBlock ≠ some b)
    (hown : w'.ownsRow B e 3 v' (ps.length + 1) (rcs ps ++ [.string (S x.1), ur, uw])) (hgr : w1.grownBy w' v.ownBlock) (hnear : Near w1 v v') : OwR w' B e v' (l ++ [x]) := by
  refine ⟨ps ++ [(x, ur, uw)], by rw [List.map_append, hps]; rfl, by rw [List.length_append, List.length_singleton, rcs_snoc]; exact hown, ?_⟩
  have key : ∀ (n : Nat) (u0 : Value), (0 < n → ∀ b, u0.ownBlock = some b → b < w1.heap.size ∧ v.ownBlock ≠ some b) → 0 < n → ∀ b, u0.ownBlock = some b → b < w'.heap.size ∧ v'.ownBlock ≠ some b := fun n u0 hs0 h0 b hb => by
    refine ⟨Nat.lt_of_lt_of_le (hs0 h0 b hb).1 hgr.size, ?_⟩
    rcases hnear with hv | ⟨g', hg', hle⟩
    · rw [hv]; exact (hs0 h0 b hb).2
    · rw [hg']; intro e; cases e; have := (hs0 h0 b hb).1; omega
  intro p hp
  rcases List.mem_append.1 hp with hp | hp
  · exact ⟨⟨Rd.apart (h3 p hp).1.1 hgr fun h0 b hb e => ((h3 p hp).2.1 h0 b hb).2 e.symm, Rd.apart (h3 p hp).1.2 hgr fun h0 b hb e => ((h3 p hp).2.2 h0 b hb).2 e.symm⟩, key _ _ (h3 p hp).2.1, key _ _ (h3 p hp).2.2⟩
  · have hp := List.mem_singleton.1 hp
    subst hp
    exact ⟨⟨Rd.apart hr hgr fun h0 b hb e => (hsr h0 b hb).2 e.symm, Rd.apart hw hgr fun h0 b hb e => (hsw h0 b hb).2 e.symm⟩, key _ _ hsr, key _ _ hsw⟩
end Go.Proofs.Ytemdhbeegheefaa
