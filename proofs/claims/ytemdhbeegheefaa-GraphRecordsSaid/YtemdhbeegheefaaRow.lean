
/- Rows that the call owns: cells laid into them; 'copy' of elements of several cells. Of no program. No condition. -/
import Derived.Test.YtemdhbeegheefaaOwn
import Derived.Shelf.Spec.SlicesInsertGrow
namespace Go.Proofs.Ytemdhbeegheefaa
open Go.RowKit

theorem setCells_row (P : Program) (w : World) (g o : Nat) (cur : Array Value) (t : TypeId) (vs : List Value) (hg : w.heap[g]? = some (.cells cur t (0, 0))) (hl : o + vs.length ≤ cur.size) (h1 : ∀ v ∈ vs, v.oneCell' = true) :
    w.setCells g o vs = w.setRow g (cur.toList.take o ++ vs ++ cur.toList.drop (o + vs.length)).toArray := by
  have a := run_storeCells_at P g o t vs 0 cur w hg (by simpa using hl) h1
  have b := run_storeCells_cells (P := P) g o vs 0 w (fun j hj => by rw [row_cell hg]; simp; omega) (fun j hj => row_free hg _) h1
  rw [a] at b
  simp only [Nat.add_zero] at b
  injection b with _ b
  exact b.symm

/-- So many of the first elements. -/
theorem own_prefix {w : World} {B e k n g c : Nat} {xs : List Value} (h : w.ownsRow B e k (.slice (some ⟨g, 0, none⟩) n c) n xs) {i : Nat} (hi : i ≤ n) : w.ownsRow B e k (.slice (some ⟨g, 0, none⟩) i c) i (xs.take (i * k)) := by
  have hle : i * k ≤ n * k := Nat.mul_le_mul_right _ hi
  refine ⟨by rw [List.length_take, h.1]; omega, ?_⟩
  rcases h.2 with ⟨h2, _⟩ | ⟨g', cap, cur, hv, hb, hg, hn, hc, hs, ht⟩
  · cases h2
  · cases hv
    refine .inr ⟨g, c, cur, rfl, hb, hg, by omega, hc, hs, ?_⟩
    rw [← ht, List.take_take, Nat.min_eq_left hle]

/-- Cells laid behind the first i elements. -/
theorem own_lay {w : World} {B e k i g c m : Nat} {xs news : List Value} (P : Program) (h : w.ownsRow B e k (.slice (some ⟨g, 0, none⟩) i c) i xs) (hm : news.length = m * k) (hc : i + m ≤ c) (h1 : ∀ v ∈ news, v.oneCell' = true) :
    (w.setCells g (i * k) news).ownsRow B e k (.slice (some ⟨g, 0, none⟩) (i + m) c) (i + m) (xs ++ news) ∧ w.grownBy (w.setCells g (i * k) news) (some g) := by
  rcases h.2 with ⟨h2, _⟩ | ⟨g', cap, cur, hv, hb, hg, hn, hcm, hs, ht⟩
  · cases h2
  · cases hv
    have hle : (i + m) * k ≤ c * k := Nat.mul_le_mul_right _ hc
    rw [Nat.add_mul] at hle
    rw [setCells_row P w g (i * k) cur e news hg (by omega) h1]
    refine ⟨⟨by rw [List.length_append, h.1, hm, Nat.add_mul], .inr ⟨g, c, _, rfl, hb, setRow_heap w g cur _ e _ hg, hc, hcm, ?_, ?_⟩⟩, ⟨rfl, rfl, rfl, by simp, fun k _ hk => setRow_other w g k _ (fun e => hk (by rw [e]))⟩⟩
    · simp only [List.size_toArray, List.length_append, List.length_take, List.length_drop, Array.length_toList]
      omega
    · rw [ht, Nat.add_mul, ← hm, ← h.1, ← List.length_append]
      exact List.take_left
/-- Cells laid behind what is owned: nothing turns in it. -/
theorem own_spoil {w : World} {B e k i g c o : Nat} {xs news : List Value} (P : Program) (h : w.ownsRow B e k (.slice (some ⟨g, 0, none⟩) i c) i xs) (ho : i * k ≤ o) (hc : o + news.length ≤ c * k) (h1 : ∀ v ∈ news, v.oneCell' = true) :
    (w.setCells g o news).ownsRow B e k (.slice (some ⟨g, 0, none⟩) i c) i xs ∧ w.grownBy (w.setCells g o news) (some g) := by
  rcases h.2 with ⟨h2, _⟩ | ⟨g', cap, cur, hv, hb, hg, hn, hcm, hs, ht⟩
  · cases h2
  · cases hv
    rw [setCells_row P w g o cur e news hg (by omega) h1]
    refine ⟨⟨h.1, .inr ⟨g, c, _, rfl, hb, setRow_heap w g cur _ e _ hg, hn, hcm, ?_, ?_⟩⟩, ⟨rfl, rfl, rfl, by simp, fun k _ hk => setRow_other w g k _ (fun e => hk (by rw [e]))⟩⟩
    · simp only [List.size_toArray, List.length_append, List.length_take, List.length_drop, Array.length_toList]
      omega
    · have hlen : (cur.toList.take o).length = o := by rw [List.length_take, Array.length_toList]; omega
      rw [List.append_assoc, List.take_append_of_le_length (by rw [hlen]; exact ho), List.take_take, Nat.min_eq_left ho, ht]
theorem own_size {w : World} {B e k n g c : Nat} {xs : List Value} (h : w.ownsRow B e k (.slice (some ⟨g, 0, none⟩) n c) n xs) : n ≤ c ∧ c ≤ maxLen := by
  rcases h.2 with ⟨h2, _⟩ | ⟨g', cap, cur, hv, hb, hg, hn, hcm, hs, ht⟩
  · cases h2
  · cases hv; exact ⟨hn, hcm⟩
theorem own_row {w : World} {B e k n g c : Nat} {xs : List Value} (h : w.ownsRow B e k (.slice (some ⟨g, 0, none⟩) n c) n xs) : ∃ cur, w.heap[g]? = some (.cells cur e (0, 0)) ∧ cur.size = c * k := by
  rcases h.2 with ⟨h2, _⟩ | ⟨g', cap, cur, hv, hb, hg, hn, hcm, hs, ht⟩
  · cases h2
  · cases hv; exact ⟨cur, hg, hs⟩


/-- 'copy' of so many elements of k cells each. -/
theorem run_copyK {P : Program} (w : World) (dT sT ty elem : TypeId) (k b o dLen dCap : Nat) (a : Addr) (sLen sCap m : Nat) (cs : List Value)
    (hu : P.underlying dT = some (.slice elem)) (hs : (P.info? elem).map (·.size) = some k) (hm : Nat.min sLen dLen = m) (hn : cs.length = m * k)
    (hsrc : ∀ j v, cs[j]? = some v → w.cell? (a.add j) = some v) (hc : ∀ j, j < cs.length → (w.cell? ⟨b, o + j, none⟩).isSome = true) (hf : ∀ j, j < cs.length → w.frozen? ⟨b, o + j, none⟩ = false) (h1 : ∀ v ∈ cs, v.oneCell' = true) :
    (Builtin.copy_ #[dT, sT] ty #[.slice (some ⟨b, o, none⟩) dLen dCap, .slice (some a) sLen sCap]).run P w = .ok (goInt m) (w.setCells b o cs) := by
  have hl := run_loadCells_list (P := P) w a cs hsrc
  have hst := run_storeCells_cells (P := P) b o cs 0 w (by simpa using hc) (by simpa using hf) h1
  cases hq : P.info? elem with
  | none => simp [hq] at hs
  | some i =>
    have hi : i.size = k := by simpa [hq] using hs
    simp [Builtin.copy_, run_underlying hu, Builtin.lenOf, Builtin.firstCells, sizeOf, typeInfo, hq, hi, hm, ← hn, hl, hst]
theorem grownBy_drew {w w' : World} {row : Option Nat} (h : w.drew.grownBy w' row) : w.grownBy w' row := ⟨h.os, h.tape, h.output, h.size, h.block⟩
/-- Elements laid between others, the tail first. -/
theorem own_mid {w : World} {B e k n i g c : Nat} {xs news : List Value} (P : Program) (h : w.ownsRow B e k (.slice (some ⟨g, 0, none⟩) n c) n xs) (hi : i ≤ n) (hm : news.length = k) (hc : n + 1 ≤ c) (h1 : ∀ v ∈ xs, v.oneCell' = true) (h2 : ∀ v ∈ news, v.oneCell' = true) :
    ((w.setCells g ((i + 1) * k) (xs.drop (i * k))).setCells g (i * k) news).ownsRow B e k (.slice (some ⟨g, 0, none⟩) (n + 1) c) (n + 1) (xs.take (i * k) ++ news ++ xs.drop (i * k)) ∧
      w.grownBy ((w.setCells g ((i + 1) * k) (xs.drop (i * k))).setCells g (i * k) news) (some g) := by
  have hp := own_prefix h hi
  rcases h.2 with ⟨h3, _⟩ | ⟨g', cap, cur, hv, hb, hg, hn, hcm, hs, ht⟩
  · cases h3
  · cases hv
    have hxl := h.1
    have hik : i * k ≤ n * k := Nat.mul_le_mul_right _ hi
    have hle : (n + 1) * k ≤ c * k := Nat.mul_le_mul_right _ hc
    have e1 : (i + 1) * k = i * k + k := Nat.succ_mul _ _
    have e2 : (n + 1) * k = n * k + k := Nat.succ_mul _ _
    have hdl : (xs.drop (i * k)).length = n * k - i * k := by rw [List.length_drop, hxl]
    have hcl : cur.toList.length = c * k := by rw [Array.length_toList, hs]
    have htk : cur.toList.take (i * k) = xs.take (i * k) := by rw [← ht, List.take_take, Nat.min_eq_left hik]
    rw [setCells_row P w g ((i + 1) * k) cur e _ hg (by rw [hdl, e1]; omega) (fun v hv => h1 v (List.mem_of_mem_drop hv))]
    obtain ⟨arr, harr⟩ : ∃ arr, arr = cur.toList.take ((i + 1) * k) ++ xs.drop (i * k) ++ cur.toList.drop ((i + 1) * k + (xs.drop (i * k)).length) := ⟨_, rfl⟩
    rw [← harr]
    have hg1 := setRow_heap w g cur arr.toArray e (0, 0) hg
    have hal : arr.length = c * k := by
      rw [harr]
      simp only [List.length_append, List.length_take, List.length_drop, hcl, hxl]
      omega
    rw [setCells_row P _ g (i * k) arr.toArray e news hg1 (by simp only [List.size_toArray]; omega) h2]
    have hat : arr.take (i * k) = xs.take (i * k) := by
      rw [harr, List.append_assoc, List.take_append_of_le_length (by rw [List.length_take, hcl]; omega), List.take_take, Nat.min_eq_left (by omega), htk]
    have had : arr.drop (i * k + news.length) = xs.drop (i * k) ++ cur.toList.drop ((i + 1) * k + (xs.drop (i * k)).length) := by
      rw [harr, List.append_assoc, List.drop_append_of_le_length (by rw [List.length_take, hcl]; omega), List.drop_eq_nil_of_le (by rw [List.length_take, hcl]; omega), List.nil_append]
    have hg2 := setRow_heap (w.setRow g arr.toArray) g arr.toArray (arr.toArray.toList.take (i * k) ++ news ++ arr.toArray.toList.drop (i * k + news.length)).toArray e (0, 0) hg1
    refine ⟨⟨by simp only [List.length_append, List.length_take, hdl, hxl]; omega, .inr ⟨g, c, _, rfl, hb, hg2, hc, hcm, ?_, ?_⟩⟩, ?_⟩
    · simp only [List.size_toArray, List.length_append, List.length_take, List.length_drop, hal]
      omega
    · simp only [hat, had]
      rw [← List.append_assoc, List.take_append_of_le_length (by simp only [List.length_append, List.length_take, hdl, hxl]; omega), List.take_of_length_le (by simp only [List.length_append, List.length_take, hdl, hxl]; omega)]
    · exact grownBy_trans (b := w.setRow g arr.toArray) ⟨rfl, rfl, rfl, by simp, fun k _ hk => setRow_other w g k _ (fun e => hk (by rw [e]))⟩ ⟨rfl, rfl, rfl, by simp, fun k _ hk => setRow_other _ g k _ (fun e => hk (by rw [e]))⟩

end Go.Proofs.Ytemdhbeegheefaa
