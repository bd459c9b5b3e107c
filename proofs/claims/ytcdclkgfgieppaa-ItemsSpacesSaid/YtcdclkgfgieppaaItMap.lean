
/- Maps of commands and of their names: what 'commands' and 'names' lay. No condition. -/
import Derived.Test.YtcdclkgfgieppaaItPure
import Derived.Test.YtcdclkgfgieppaaKit
import Derived.Test.YtcdclkgfgieppaaShelf
import Derived.Maps.OwnSet
import Derived.Maps.RangeWalk
import Derived.Maps.Ext
namespace Go.Proofs.Ytcdclkgfgieppaa
open Go.RowKit Go.Maps Go.WideMaps

theorem lawS : Keyed Try.prog 9 := string_keyed Try.underlying9
theorem lawI : Keyed Try.prog 3 := int_keyed Try.underlying3
/-- How a command reads. -/
def readC : Value → Option (DataW Unit × List MemPlace)
  | .agg ⟨[.int .i64 a, .int .i64 b]⟩ => some (.agg [.lit (.int .i64 a), .lit (.int .i64 b)], [])
  | _ => none
/-- How a name reads. -/
def readN : Value → Option (DataW Unit × List MemPlace)
  | .agg ⟨[.string s, .int .i64 b]⟩ => some (.agg [.lit (.string s.data.toList), .lit (.int .i64 b)], [])
  | _ => none
def dC (a b : Int) : DataW Unit := .agg [.lit (.int .i64 a), .lit (.int .i64 b)]
def dN (s : List UInt8) (b : Int) : DataW Unit := .agg [.lit (.string s), .lit (.int .i64 b)]
theorem readC_mk (a b : Int) : readC (.agg #[.int .i64 a, .int .i64 b]) = some (dC a b, []) := rfl
theorem readN_mk (s : List UInt8) (b : Int) : readN (.agg #[.string (S s), .int .i64 b]) = some (dN s b, []) := rfl
theorem readC_inv {v : Value} {y : DataW Unit × List MemPlace} (h : readC v = some y) : ∃ a b, v = .agg #[.int .i64 a, .int .i64 b] ∧ y = (dC a b, []) := by
  unfold readC at h
  split at h
  · cases h; exact ⟨_, _, rfl, rfl⟩
  · cases h
theorem readN_inv {v : Value} {y : DataW Unit × List MemPlace} (h : readN v = some y) : ∃ s b, v = .agg #[.string (S s), .int .i64 b] ∧ y = (dN s b, []) := by
  unfold readN at h
  split at h
  · rename_i s b
    cases h
    exact ⟨s.data.toList, b, rfl, rfl⟩
  · cases h
theorem key_S (s : List UInt8) (h : s.length ≤ maxLen) : keyOf Try.prog 9 (.string (S s)) = some (.string s) := keyOf_string_mk Try.underlying9 h

/-- A map literal's element, laid at the operation. -/
theorem wp_insert {P : Program} (w : World) {ops : Array Oper} {rest : List Oper} {o : Oper} {a : Act} {Q : Exit → Act → World → Prop}
    (hg : o.guard = none) (m x v : Operand) (t : TypeId) (hop : o.op = Op.insert t m x v)
    (k e : TypeId) (K : Keyed P k) (ht : P.underlying t = some (.map k e)) (R : Value → Option (DataW Unit × List MemPlace)) (b n : Nat) (D : DataW Unit)
    (hm : a.eval m = .map (some b)) (hown : w.ownsMap P k R b n D) (hn : n < maxLen) (key val : Value) (kl : Lit) (hx : a.eval x = key) (hv : a.eval v = val) (hkey : keyOf P k key = some kl)
    (d : DataW Unit) (ps : List MemPlace) (hval : R val = some (d, ps))
    (hK : ∀ w', w'.ownsMap P k R b (n + 1) (D.put kl d) → w.grownBy w' (some b) → wpList P ops Q rest (a.put o.dst undef) w') :
    wpList P ops Q (o :: rest) a w := by
  refine wpList_plain hg fun K' hK' => ?_
  obtain ⟨w', hrun, r1, r2⟩ := hown.update K ht hn hkey hval
  unfold Oper.wp
  simp [execOp, hop, hm, hx, hv, hrun, Result.andThen]
  exact hK' _ _ (hK w' r1 r2)

/-- The commands as a map reads. -/
def comD : DataW Unit := (DataW.put (DataW.put (DataW.put (DataW.put (DataW.put (DataW.put (DataW.put (DataW.put (DataW.put (DataW.put (DataW.put (DataW.put (DataW.put (.map []) (.string [115, 101, 99, 116, 105, 111, 110]) (dC 4 1)) (.string [115, 117, 98]) (dC 5 1)) (.string [108, 97, 98, 101, 108]) (dC 6 1)) (.string [114, 101, 102]) (dC 7 1)) (.string [112, 97, 103, 101, 114, 101, 102]) (dC 8 1)) (.string [99, 105, 116, 101]) (dC 9 1)) (.string [105, 110, 100, 101, 120]) (dC 10 1)) (.string [115, 116, 101, 112]) (dC 11 1)) (.string [118, 97, 108, 117, 101]) (dC 12 1)) (.string [98, 105, 98]) (dC 13 1)) (.string [116, 111, 99]) (dC 14 0)) (.string [112, 114, 105, 110, 116, 105, 110, 100, 101, 120]) (dC 15 0)) (.string [110, 101, 119, 112, 97, 103, 101]) (dC 16 0))

set_option maxRecDepth 20000 in
set_option maxHeartbeats 4000000 in
/-- 'commands'. -/
theorem commands_any (w : World) :
    Calls Try.prog 25 #[] w fun e w' => e = .returned (.map (some w.heap.size)) ∧ w'.ownsMap Try.prog 9 readC w.heap.size 13 comD ∧ Below w.heap.size w w' := by
  have hmm := @run_makeMap Try.prog
  have hown := World.ownsMap_made w Try.prog 9 readC
  have hbw : Below w.heap.size w (w.alloc (.map #[] 0)) := (Below.refl _ _).alloc (Nat.le_refl _) _
  go_enter Try.func25, Try.ntmps25
  simp only [S_lit]
  go_wp2_with (first
    | (refine wp_insert _ rfl _ _ _ 55 rfl 9 65 lawS Try.underlying55 readC w.heap.size _ _ rfl hown (by unfold maxLen; omega) _ _ _ rfl rfl (key_S _ (by decide)) _ [] (readC_mk _ _) ?_; clear hown; intro w1 hown hg1; have hbw := hbw.grown hg1 hbw.size (fun j hj => by cases hj; exact Nat.le_refl _); clear hg1)
    | fail)
  go_ret
  exact ⟨rfl, hown, hbw⟩

theorem kindOf_none {s : List UInt8} (h : ∀ n ∈ It.names, n ≠ s) : It.kindOf s = 0 := by
  unfold It.kindOf
  have e : It.names.findIdx (· == s) = It.names.length := List.findIdx_eq_length.2 fun x hx => by simpa using h x hx
  rw [if_neg (by rw [e]; decide)]
theorem com_miss {s : List UInt8} (h : ∀ n ∈ It.names, n ≠ s) : has comD (.string s) = false ∧ ∀ zd, comD.atKey (.string s) zd = zd := by
  have hk : ∀ n, n ∈ It.names → (Lit.string s) ≠ (Lit.string n) := fun n hn e => h n hn (by injection e with e; exact e.symm)
  refine ⟨?_, fun zd => ?_⟩
  · unfold comD
    rw [has_put_other (hk _ (by decide))]
    rw [has_put_other (hk _ (by decide))]
    rw [has_put_other (hk _ (by decide))]
    rw [has_put_other (hk _ (by decide))]
    rw [has_put_other (hk _ (by decide))]
    rw [has_put_other (hk _ (by decide))]
    rw [has_put_other (hk _ (by decide))]
    rw [has_put_other (hk _ (by decide))]
    rw [has_put_other (hk _ (by decide))]
    rw [has_put_other (hk _ (by decide))]
    rw [has_put_other (hk _ (by decide))]
    rw [has_put_other (hk _ (by decide))]
    rw [has_put_other (hk _ (by decide))]
    rfl
  · unfold comD
    rw [atKey_put_other (hk _ (by decide))]
    rw [atKey_put_other (hk _ (by decide))]
    rw [atKey_put_other (hk _ (by decide))]
    rw [atKey_put_other (hk _ (by decide))]
    rw [atKey_put_other (hk _ (by decide))]
    rw [atKey_put_other (hk _ (by decide))]
    rw [atKey_put_other (hk _ (by decide))]
    rw [atKey_put_other (hk _ (by decide))]
    rw [atKey_put_other (hk _ (by decide))]
    rw [atKey_put_other (hk _ (by decide))]
    rw [atKey_put_other (hk _ (by decide))]
    rw [atKey_put_other (hk _ (by decide))]
    rw [atKey_put_other (hk _ (by decide))]
    rfl
theorem com_hit : ∀ (k : Nat), 4 ≤ k → k ≤ 16 → has comD (.string (It.nameOf k)) = true ∧ ∀ zd, comD.atKey (.string (It.nameOf k)) zd = dC k (It.grp k) := by
  intro k h1 h2
  have : k = 4 ∨ k = 5 ∨ k = 6 ∨ k = 7 ∨ k = 8 ∨ k = 9 ∨ k = 10 ∨ k = 11 ∨ k = 12 ∨ k = 13 ∨ k = 14 ∨ k = 15 ∨ k = 16 := by omega
  rcases this with rfl | rfl | rfl | rfl | rfl | rfl | rfl | rfl | rfl | rfl | rfl | rfl | rfl
  all_goals exact ⟨rfl, fun _ => rfl⟩
/-- What the commands' map holds at a text. -/
theorem com_at (s : List UInt8) : has comD (.string s) = decide (It.kindOf s ≠ 0) ∧ ∀ zd, comD.atKey (.string s) zd = if It.kindOf s = 0 then zd else dC (It.kindOf s) (It.grp (It.kindOf s)) := by
  by_cases h : It.kindOf s = 0
  · have hm : ∀ n ∈ It.names, n ≠ s := by
      intro n hn e
      subst e
      have : ∀ n ∈ It.names, It.kindOf n ≠ 0 := by decide +kernel
      exact this n hn h
    rw [h]
    obtain ⟨h1, h2⟩ := com_miss hm
    exact ⟨by rw [h1]; rfl, fun zd => by rw [h2, if_pos rfl]⟩
  · have hr := It.kindOf_le s
    obtain ⟨h1, h2⟩ := com_hit (It.kindOf s) (by omega) (by omega)
    rw [It.nameOf_kind s h] at h1 h2
    exact ⟨by rw [h1]; simp [h], fun zd => by rw [h2, if_neg h]⟩

end Go.Proofs.Ytcdclkgfgieppaa
