
/- 'make([]T, n)' where T has one cell. No condition. -/
import Derived.Test.YtemdhbeegheefaaGrFind
import Derived.Laws.OwnMore
namespace Go.Proofs.Ytemdhbeegheefaa
open Go.RowKit Gr

theorem made_one (z : Value) (hz : z.cells = #[z]) (n : Nat) : madeCells z.cells n = (List.replicate n z).toArray := by
  rw [hz]
  apply Array.ext'
  rw [toList_madeCells_one]
theorem run_mk {P : Program} {t e : TypeId} {z : Value} {bytes : Nat} (ht : P.underlying t = some (.slice e)) (hi : (P.info? e).map (fun i => (i.zero, i.size, i.bytes)) = some (some z, 1, bytes)) (hz : z.cells = #[z]) (hb : bytes ≤ 1000) (n : Nat) (hn : n ≤ 1000000) (w : World) :
    (Instr.makeSlice t (.int .i64 (n : Int)) (.int .i64 (n : Int))).run P w = .ok (.slice (some ⟨w.heap.size, 0, none⟩) n n) (w.alloc (.cells (List.replicate n z).toArray e)) := by
  cases h : P.info? e with
  | none => rw [h] at hi; cases hi
  | some i =>
    rw [h] at hi
    simp only [Option.map_some, Option.some.injEq, Prod.mk.injEq] at hi
    obtain ⟨h1, h2, h3⟩ := hi
    have h5 : bytes * n ≤ 1000 * 1000000 := Nat.mul_le_mul hb hn
    have := run_make (P := P) w t e i z ht h h1 .i64 .i64 n n (by omega) (Int.le_refl _) (by rw [h3]; omega) (by omega)
    rw [this, h2, Int.toNat_natCast, Nat.mul_one, made_one z hz]
theorem mkInts (n : Nat) (hn : n ≤ 1000000) (w : World) : (Instr.makeSlice 23 (.int .i64 (n : Int)) (.int .i64 (n : Int))).run Try.prog w = .ok (.slice (some ⟨w.heap.size, 0, none⟩) n n) (w.alloc (.cells (List.replicate n (.int .i64 0)).toArray 3)) :=
  run_mk Try.underlying23 (by kernel_rfl) rfl (bytes := 8) (by omega) n hn w
theorem mkBools (n : Nat) (hn : n ≤ 1000000) (w : World) : (Instr.makeSlice 45 (.int .i64 (n : Int)) (.int .i64 (n : Int))).run Try.prog w = .ok (.slice (some ⟨w.heap.size, 0, none⟩) n n) (w.alloc (.cells (List.replicate n (.bool false)).toArray 4)) :=
  run_mk Try.underlying45 (by kernel_rfl) rfl (bytes := 1) (by omega) n hn w
theorem mkGrid (n : Nat) (hn : n ≤ 1000000) (w : World) : (Instr.makeSlice 22 (.int .i64 (n : Int)) (.int .i64 (n : Int))).run Try.prog w = .ok (.slice (some ⟨w.heap.size, 0, none⟩) n n) (w.alloc (.cells (List.replicate n (.slice none 0 0)).toArray 23)) :=
  run_mk Try.underlying22 (by kernel_rfl) rfl (bytes := 24) (by omega) n hn w
theorem alloc_size (w : World) (o : Obj) : (w.alloc o).heap.size = w.heap.size + 1 := by simp
theorem alloc_at (w : World) (o : Obj) (i : Nat) (h : i = w.heap.size) : (w.alloc o).heap[i]? = some o := by rw [h]; exact heap_alloc_new w o
theorem alloc_lt (w : World) (o : Obj) (i : Nat) (h : i < w.heap.size) {r : Option Obj} (hr : w.heap[i]? = r) : (w.alloc o).heap[i]? = r := (Below.heap_alloc w o i h).trans hr
/-- Five blocks, one behind the other. -/
theorem five (w : World) (a0 a1 a2 a3 a4 : Obj) : ∃ W, W = (((((w.alloc a0).alloc a1).alloc a2).alloc a3).alloc a4).drew ∧ W.heap[w.heap.size]? = some a0 ∧ W.heap[w.heap.size + 1]? = some a1 ∧ W.heap[w.heap.size + 1 + 1]? = some a2 ∧
    W.heap[w.heap.size + 1 + 1 + 1]? = some a3 ∧ W.heap[w.heap.size + 1 + 1 + 1 + 1]? = some a4 ∧ Below w.heap.size w W := by
  refine ⟨_, rfl, ?_, ?_, ?_, ?_, ?_, ?_⟩
  · exact alloc_lt _ _ _ (by simp only [alloc_size]; omega) (alloc_lt _ _ _ (by simp only [alloc_size]; omega) (alloc_lt _ _ _ (by simp only [alloc_size]; omega) (alloc_lt _ _ _ (by simp only [alloc_size]; omega) (alloc_at _ _ _ (by simp)))))
  · exact alloc_lt _ _ _ (by simp only [alloc_size]; omega) (alloc_lt _ _ _ (by simp only [alloc_size]; omega) (alloc_lt _ _ _ (by simp only [alloc_size]; omega) (alloc_at _ _ _ (by simp))))
  · exact alloc_lt _ _ _ (by simp only [alloc_size]; omega) (alloc_lt _ _ _ (by simp only [alloc_size]; omega) (alloc_at _ _ _ (by simp)))
  · exact alloc_lt _ _ _ (by simp only [alloc_size]; omega) (alloc_at _ _ _ (by simp))
  · exact alloc_at _ _ _ (by simp)
  · have h := ((((((Kw.alloc w a0 (fun _ => False)).trans (Kw.alloc _ a1 (fun _ => False)) fun _ _ => id).trans (Kw.alloc _ a2 (fun _ => False)) fun _ _ => id).trans (Kw.alloc _ a3 (fun _ => False)) fun _ _ => id).trans (Kw.alloc _ a4 (fun _ => False)) fun _ _ => id).trans (Kw.drewN _ 1 (fun _ => False)) fun _ _ => id)
    exact h.below (fun _ h => h.elim) (Nat.le_refl _)
/-- Two blocks. -/
theorem two (w : World) (a0 a1 : Obj) : ∃ W, W = ((w.alloc a0).alloc a1).drew ∧ W.heap[w.heap.size]? = some a0 ∧ W.heap[w.heap.size + 1]? = some a1 ∧ W.heap.size = w.heap.size + 2 ∧ Kw w W (fun _ => False) := by
  refine ⟨_, rfl, ?_, ?_, ?_, ?_⟩
  · exact alloc_lt _ _ _ (by simp only [alloc_size]; omega) (alloc_at _ _ _ (by simp))
  · exact alloc_at _ _ _ (by simp)
  · show ((w.alloc a0).alloc a1).heap.size = _
    simp
  · exact ((Kw.alloc w a0 (fun _ => False)).trans (Kw.alloc _ a1 (fun _ => False)) fun _ _ => id).trans (Kw.drewN _ 1 (fun _ => False)) fun _ _ => id
/-- Nothing came yet. -/
def st0 (n : Nat) : St := ⟨List.replicate n 0, List.replicate n 0, List.replicate n false, [], 0, List.replicate n 0, 0⟩
theorem zeros_cells (n : Nat) : (ints (nn (List.replicate n 0))).toArray = Array.replicate n (.int .i64 0) := by simp [ints]
theorem Ro.zeros {w : World} {b n : Nat} (h : w.heap[b]? = some (.cells (Array.replicate n (.int .i64 0)) 3 (0, 0))) : Ro w b 3 (ints (nn (List.replicate n 0))) := by
  rw [Ro, zeros_cells]; exact h
theorem Ro.falses {w : World} {b n : Nat} (h : w.heap[b]? = some (.cells (Array.replicate n (.bool false)) 4 (0, 0))) : Ro w b 4 (bls (List.replicate n false)) := by
  rw [Ro]; simp [bls]; exact h
theorem Ro.nils {w : World} {b n : Nat} (h : w.heap[b]? = some (.cells (Array.replicate n (.slice none 0 0)) 23 (0, 0))) : Ro w b 23 (List.replicate n (.slice none 0 0)) := by
  rw [Ro]; simp; exact h
/-- The finder, fresh. -/
theorem Fd.fresh {W : World} {B n : Nat} {vg : Value} {f i l o g : Nat} (q : W.heap[f]? = some (.cells #[vg, .slice (some ⟨i, 0, none⟩) n n, .slice (some ⟨l, 0, none⟩) n n, .slice (some ⟨o, 0, none⟩) n n, .slice none 0 0, .int .i64 0, .slice (some ⟨g, 0, none⟩) n n, .int .i64 0] 47 (0, 0)))
    (qi : W.heap[i]? = some (.cells (Array.replicate n (.int .i64 0)) 3 (0, 0))) (ql : W.heap[l]? = some (.cells (Array.replicate n (.int .i64 0)) 3 (0, 0))) (qo : W.heap[o]? = some (.cells (Array.replicate n (.bool false)) 4 (0, 0))) (qg : W.heap[g]? = some (.cells (Array.replicate n (.int .i64 0)) 3 (0, 0)))
    (h1 : i ≠ l) (h2 : i ≠ g) (h3 : l ≠ g) : Fd W B ⟨f, i, l, o, g⟩ n vg (.slice none 0 0) (st0 n) :=
  ⟨q, Ro.zeros qi, Ro.zeros ql, Ro.falses qo, Ro.zeros qg, World.ownsRow_nil _ _ _ _, by simp [st0], by simp [st0], by simp [st0], by simp [st0], h1, h2, h3, nofun, nofun, nofun⟩
end Go.Proofs.Ytemdhbeegheefaa
