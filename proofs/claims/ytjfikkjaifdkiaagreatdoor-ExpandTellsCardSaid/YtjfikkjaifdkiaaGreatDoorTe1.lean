/- Walks and plain laws, 1: What every walk of this seat leans on, of no program: texts as lists of bytes in the walk's own rules; slices that are read; slices that the call owns. No condition. Lists of lists that the call owns: where an append lays what it gives. Of no program. No condition. Rows that the call owns: cells laid into them; 'copy' of elements of several cells. Of no program. No condition. What stays where a call turns memory; rows alone in their blocks. Of no program. No condition. Append at a step of a region that draws its order. Of no program. No condition. The tokens of a text, said on lists of bytes: what the lexer and its reference both compute. No program in sight. No condition. Groups of tokens, and flat texts, said on lists: what the macro layer and its reference both compute. No program in sight. No condition. Flat texts, said on lists: blanks that are squeezed, words that are joined. No program in sight. No condition. Lists of tokens in memory: 'Same', 'One', 'Refs', 'Cut' of the laws, walked. The macro layer's reference: where a group ends. No condition. DERIVED: THE SHELF's CONTRACTS AT THIS DUMP, IN PLAIN WORDS (tools/lay-plain.mjs out of 'TryzShelf.lean', which tools/lay-shelf.mjs wrote): THE SAME DECLARATIONS UNDER THE SAME NAMES: 'import', 'namespace', 'open', 'def', 'theorem' AND NOTHING ELSE: no command of the shelf's: FOR A HAND-IN. Each laying: the table of numbers ('.._ren') and one theorem, a field a fact of the dump's own or the kernel's comparison; each contract: ONE APPLICATION. -/
import Derived.WalkKit
import Derived.WalkSpells
import Derived.WalkLawsBesides
import Derived.Lib.Hide
import Derived.Lib.Bytealg
import Derived.Laws.AppendOwnNone
import Derived.Shelf.Spec.SlicesInsertGrow
import Derived.Deep.AppendLies
import Derived.Deep.RegionHeld3
import Derived.Lib.Join
import Derived.Lib.Strings
import Derived.Test.YtjfikkjaifdkiaaGreatDoorProg
import Derived.BigQuiet
import Derived.Deep.QuietTactic
import Derived.Shelf.Strings.Builder1
import Derived.Shelf.Small.Strs
import Derived.Shelf.Strings.Search1
import Derived.Shelf.Slices.Turned
namespace Go.Proofs.YtjfikkjaifdkiaaGreatDoor
open Go.RowKit

/-- A text of these bytes. -/
def S (l : List UInt8) : ByteArray := ⟨l.toArray⟩

theorem S_data (s : ByteArray) : S s.data.toList = s := rfl
theorem S_inj {a b : List UInt8} (h : S a = S b) : a = b := by
  have := congrArg (fun s : ByteArray => s.data.toList) h
  simpa [S] using this
theorem S_eq {a b : List UInt8} (h : a = b) : S a = S b := by rw [h]
@[simp, go_sem] theorem S_size (l : List UInt8) : (S l).size = l.length := by simp [S, ByteArray.size]
@[simp, go_sem] theorem S_toList (l : List UInt8) : (S l).toList = l := by simp [S]
@[simp, go_sem] theorem S_dataList (l : List UInt8) : (S l).data.toList = l := by simp [S]
@[simp, go_sem] theorem S_append (a b : List UInt8) : S a ++ S b = S (a ++ b) := Go.ByteArray.mk_append_mk a b
@[simp, go_sem] theorem S_extract (l : List UInt8) (i j : Nat) : (S l).extract i j = S ((l.take j).drop i) := by
  apply ByteArray.ext
  apply Array.ext'
  simp [S, ByteArray.data_extract, List.extract_eq_take_drop, List.drop_take]
@[simp, go_sem] theorem S_getElem (l : List UInt8) (i : Nat) (h : i < (S l).size) : (S l)[i] = l[i]'(by simpa using h) := by
  simp [S, ByteArray.getElem_eq_getElem_data]
theorem S_lit (l : List UInt8) : ByteArray.mk l.toArray = S l := rfl
attribute [simp, go_sem] S_lit

/-! ### a byte held against a number, and an ending against an ending -/
theorem u8_beq (c k : UInt8) : ((c.toNat : Int) == (k.toNat : Int)) = (c == k) := by
  rw [Bool.eq_iff_iff]; simp [← UInt8.toNat_inj]; omega
theorem u8_bne (c k : UInt8) : ((c.toNat : Int) != (k.toNat : Int)) = (c != k) := by
  simp only [bne, u8_beq]
@[go_sem] theorem u8_beq_9 (c : UInt8) : ((c.toNat : Int) == 9) = (c == 9) := u8_beq c 9
@[go_sem] theorem u8_bne_9 (c : UInt8) : ((c.toNat : Int) != 9) = (c != 9) := u8_bne c 9
@[go_sem] theorem u8_beq_10 (c : UInt8) : ((c.toNat : Int) == 10) = (c == 10) := u8_beq c 10
@[go_sem] theorem u8_bne_10 (c : UInt8) : ((c.toNat : Int) != 10) = (c != 10) := u8_bne c 10
@[go_sem] theorem u8_beq_32 (c : UInt8) : ((c.toNat : Int) == 32) = (c == 32) := u8_beq c 32
@[go_sem] theorem u8_bne_32 (c : UInt8) : ((c.toNat : Int) != 32) = (c != 32) := u8_bne c 32
@[go_sem] theorem u8_beq_35 (c : UInt8) : ((c.toNat : Int) == 35) = (c == 35) := u8_beq c 35
@[go_sem] theorem u8_bne_35 (c : UInt8) : ((c.toNat : Int) != 35) = (c != 35) := u8_bne c 35
@[go_sem] theorem u8_beq_37 (c : UInt8) : ((c.toNat : Int) == 37) = (c == 37) := u8_beq c 37
@[go_sem] theorem u8_bne_37 (c : UInt8) : ((c.toNat : Int) != 37) = (c != 37) := u8_bne c 37
@[go_sem] theorem u8_beq_45 (c : UInt8) : ((c.toNat : Int) == 45) = (c == 45) := u8_beq c 45
@[go_sem] theorem u8_bne_45 (c : UInt8) : ((c.toNat : Int) != 45) = (c != 45) := u8_bne c 45
@[go_sem] theorem u8_beq_46 (c : UInt8) : ((c.toNat : Int) == 46) = (c == 46) := u8_beq c 46
@[go_sem] theorem u8_bne_46 (c : UInt8) : ((c.toNat : Int) != 46) = (c != 46) := u8_bne c 46
@[go_sem] theorem u8_beq_48 (c : UInt8) : ((c.toNat : Int) == 48) = (c == 48) := u8_beq c 48
@[go_sem] theorem u8_bne_48 (c : UInt8) : ((c.toNat : Int) != 48) = (c != 48) := u8_bne c 48
@[go_sem] theorem u8_beq_49 (c : UInt8) : ((c.toNat : Int) == 49) = (c == 49) := u8_beq c 49
@[go_sem] theorem u8_bne_49 (c : UInt8) : ((c.toNat : Int) != 49) = (c != 49) := u8_bne c 49
@[go_sem] theorem u8_beq_57 (c : UInt8) : ((c.toNat : Int) == 57) = (c == 57) := u8_beq c 57
@[go_sem] theorem u8_bne_57 (c : UInt8) : ((c.toNat : Int) != 57) = (c != 57) := u8_bne c 57
@[go_sem] theorem u8_beq_65 (c : UInt8) : ((c.toNat : Int) == 65) = (c == 65) := u8_beq c 65
@[go_sem] theorem u8_bne_65 (c : UInt8) : ((c.toNat : Int) != 65) = (c != 65) := u8_bne c 65
@[go_sem] theorem u8_beq_90 (c : UInt8) : ((c.toNat : Int) == 90) = (c == 90) := u8_beq c 90
@[go_sem] theorem u8_bne_90 (c : UInt8) : ((c.toNat : Int) != 90) = (c != 90) := u8_bne c 90
@[go_sem] theorem u8_beq_92 (c : UInt8) : ((c.toNat : Int) == 92) = (c == 92) := u8_beq c 92
@[go_sem] theorem u8_bne_92 (c : UInt8) : ((c.toNat : Int) != 92) = (c != 92) := u8_bne c 92
@[go_sem] theorem u8_beq_97 (c : UInt8) : ((c.toNat : Int) == 97) = (c == 97) := u8_beq c 97
@[go_sem] theorem u8_bne_97 (c : UInt8) : ((c.toNat : Int) != 97) = (c != 97) := u8_bne c 97
@[go_sem] theorem u8_beq_122 (c : UInt8) : ((c.toNat : Int) == 122) = (c == 122) := u8_beq c 122
@[go_sem] theorem u8_bne_122 (c : UInt8) : ((c.toNat : Int) != 122) = (c != 122) := u8_bne c 122
@[go_sem] theorem u8_beq_123 (c : UInt8) : ((c.toNat : Int) == 123) = (c == 123) := u8_beq c 123
@[go_sem] theorem u8_bne_123 (c : UInt8) : ((c.toNat : Int) != 123) = (c != 123) := u8_bne c 123
@[go_sem] theorem u8_beq_125 (c : UInt8) : ((c.toNat : Int) == 125) = (c == 125) := u8_beq c 125
@[go_sem] theorem u8_bne_125 (c : UInt8) : ((c.toNat : Int) != 125) = (c != 125) := u8_bne c 125

theorem ret_eq {a b : Value} (h : a = b) : Ending.returned a = .returned b := by rw [h]
theorem ret_bool {a b : Bool} (h : a = b) : Ending.returned (.bool a) = .returned (.bool b) := by rw [h]
theorem ret_int {k : IntKind} {a b : Int} (h : a = b) : Ending.returned (.int k a) = .returned (.int k b) := by rw [h]
theorem ret_str {a b : List UInt8} (h : a = b) : Ending.returned (.string (S a)) = .returned (.string (S b)) := by rw [h]

/-! ### a list behind a place -/
theorem drop_at {α : Type} {l : List α} {k : Nat} (h : k < l.length) : l.drop k = l[k] :: l.drop (k + 1) := List.drop_eq_getElem_cons h
theorem headD_drop {l : List UInt8} {k : Nat} (h : k < l.length) : (l.drop k).headD 0 = l[k] := by rw [drop_at h]; rfl
theorem headD_drop_ge {l : List UInt8} {k : Nat} (h : l.length ≤ k) : (l.drop k).headD 0 = 0 := by rw [List.drop_eq_nil_of_le h]; rfl

/-! ### slices that are read -/
theorem addr_add (b o j : Nat) : (⟨b, o, none⟩ : Addr).add j = ⟨b, o + j, none⟩ := by
  unfold Addr.add; split
  · rename_i h; subst h; rfl
  · rfl

/-- In w the value v is a slice of n elements of k cells each: these cells. -/
def Rd (w : World) (k : Nat) (v : Value) (n : Nat) (cs : List Value) : Prop :=
  cs.length = n * k ∧ (((v = .slice none 0 0 ∨ ∃ p c, v = .slice (some p) 0 c) ∧ n = 0) ∨ ∃ b o cap, v = .slice (some ⟨b, o, none⟩) n cap ∧ (0 < n → b < w.heap.size) ∧ (∀ j u, cs[j]? = some u → w.cell? ⟨b, o + j, none⟩ = some u) ∧ n ≤ cap)

/-- As many as it may hold, or fewer. -/
theorem Rd.cap {w : World} {k n m c : Nat} {a : Option Addr} {cs : List Value} (h : Rd w k (.slice a n c) m cs) : n ≤ c := by
  rcases h.2 with ⟨h1 | ⟨p, c', h1⟩, h2⟩ | ⟨b, o, cap, h1, _, _, h2⟩
  · cases h1; exact Nat.le_refl _
  · cases h1; omega
  · cases h1; exact h2

/-- The block in which a slice lies is below B. -/
def Under (B : Nat) (v : Value) : Prop := ∀ b, v.ownBlock = some b → b < B

theorem Under.mono {B B' : Nat} {v : Value} (h : Under B v) (hB : B ≤ B') : Under B' v := fun b hb => Nat.lt_of_lt_of_le (h b hb) hB

theorem Rd.shape {w : World} {k n : Nat} {v : Value} {cs : List Value} (h : Rd w k v n cs) : ∃ a c, v = .slice a n c := by
  rcases h.2 with ⟨rfl | ⟨p, c, rfl⟩, rfl⟩ | ⟨b, o, cap, rfl, _⟩
  · exact ⟨_, _, rfl⟩
  · exact ⟨_, _, rfl⟩
  · exact ⟨_, _, rfl⟩

/-- A block whose cells stay as they are. -/
theorem Rd.same {w w' : World} {k n : Nat} {v : Value} {cs : List Value} (h : Rd w k v n cs) (hs : w.heap.size ≤ w'.heap.size) (hb : ∀ b, v.ownBlock = some b → b < w.heap.size → w'.heap[b]? = w.heap[b]?) : Rd w' k v n cs := by
  refine ⟨h.1, ?_⟩
  rcases h.2 with h2 | ⟨b, o, cap, rfl, hlt, hc, hcap⟩
  · exact .inl h2
  · refine .inr ⟨b, o, cap, rfl, fun hn => Nat.lt_of_lt_of_le (hlt hn) hs, fun j u hj => ?_, hcap⟩
    by_cases hn : 0 < n
    · rw [World.cell?_of_block (w := w) (hb b rfl (hlt hn))]
      exact hc j u hj
    · have h0 : cs = [] := List.eq_nil_of_length_eq_zero (by rw [h.1, show n = 0 by omega, Nat.zero_mul])
      simp [h0] at hj

theorem Rd.below {w w' : World} {B k n : Nat} {v : Value} {cs : List Value} (h : Rd w k v n cs) (hu : Under B v) (hb : Below B w w') : Rd w' k v n cs :=
  h.same hb.size fun b hv _ => hb.block b (hu b hv)

/-- What was there when the world was w reads in each later world as it did. -/
theorem Rd.below' {w w' : World} {k n : Nat} {v : Value} {cs : List Value} (h : Rd w k v n cs) (hb : Below w.heap.size w w') : Rd w' k v n cs :=
  h.same hb.size fun b _ hlt => hb.block b hlt

theorem Rd.under {w : World} {k n : Nat} {v : Value} {cs : List Value} (h : Rd w k v n cs) (hk : 0 < n) : Under w.heap.size v := by
  rcases h.2 with ⟨_, h2⟩ | ⟨b, o, cap, rfl, hlt, hc, _⟩
  · omega
  · intro b' hb'
    simp [Value.ownBlock] at hb'
    have := hlt hk
    omega

/-- Behind a write into one block alone, which is not v's. -/
theorem Rd.grown {w w' : World} {row : Option Nat} {k n : Nat} {v : Value} {cs : List Value} (h : Rd w k v n cs) (hg : w.grownBy w' row) (hne : ∀ b, v.ownBlock = some b → some b ≠ row) : Rd w' k v n cs :=
  h.same hg.size fun b hv hlt => hg.block b hlt (hne b hv)

theorem own_rd {w : World} {base e k n : Nat} {v : Value} {cs : List Value} (h : w.ownsRow base e k v n cs) : Rd w k v n cs := by
  refine ⟨h.1, ?_⟩
  rcases h.2 with h2 | ⟨g, cap, cur, rfl, _, hg, hcap, _, _, ht⟩
  · exact .inl ⟨.inl h2.1, h2.2⟩
  · refine .inr ⟨g, 0, cap, rfl, fun _ => (Array.getElem?_eq_some_iff.1 hg).1, fun j u hj => ?_, hcap⟩
    have := h.cells (g := g) rfl j u hj
    rw [addr_add] at this
    exact this

theorem own_under {w : World} {base e k n : Nat} {v : Value} {cs : List Value} (h : w.ownsRow base e k v n cs) : Under w.heap.size v := fun b hb => (h.lt b hb).2

/-- What the call owns stays owned while nothing below B turns, if it lies below B. -/
theorem own_below {w w' : World} {B base e k n : Nat} {v : Value} {cs : List Value} (h : w.ownsRow base e k v n cs) (hu : Under B v) (hb : Below B w w') : w'.ownsRow base e k v n cs := by
  refine ⟨h.1, ?_⟩
  rcases h.2 with h2 | ⟨g, cap, cur, rfl, hg, hh, r⟩
  · exact .inl h2
  · exact .inr ⟨g, cap, cur, rfl, hg, by rw [hb.block g (hu g rfl)]; exact hh, r⟩

theorem own_shape {w : World} {base e k n : Nat} {v : Value} {cs : List Value} (h : w.ownsRow base e k v n cs) : ∃ a cap, v = .slice a n cap := by
  rcases h.2 with ⟨rfl, rfl⟩ | ⟨g, cap, cur, rfl, _⟩
  · exact ⟨_, _, rfl⟩
  · exact ⟨_, _, rfl⟩

theorem own_mono {w : World} {base base' e k n : Nat} {v : Value} {cs : List Value} (h : w.ownsRow base e k v n cs) (hb : base' ≤ base) : w.ownsRow base' e k v n cs := by
  refine ⟨h.1, ?_⟩
  rcases h.2 with h2 | ⟨g, cap, cur, rfl, hg, r⟩
  · exact .inl h2
  · exact .inr ⟨g, cap, cur, rfl, Nat.le_trans hb hg, r⟩

/-! ### lists of tokens in memory: two cells each -/
def tc (t : Int × List UInt8) : List Value := [.int .i64 t.1, .string (S t.2)]
def tcs (l : List (Int × List UInt8)) : List Value := l.flatMap tc
theorem tcs_length (l : List (Int × List UInt8)) : (tcs l).length = l.length * 2 := by
  induction l with
  | nil => rfl
  | cons t l ih => simp only [tcs, List.flatMap_cons, List.length_append, List.length_cons] at ih ⊢; simp only [tc, List.length_cons, List.length_nil]; omega
theorem tcs_append (a b : List (Int × List UInt8)) : tcs (a ++ b) = tcs a ++ tcs b := by simp [tcs]
theorem tcs_snoc (a : List (Int × List UInt8)) (t : Int × List UInt8) : tcs (a ++ [t]) = tcs a ++ [.int .i64 t.1, .string (S t.2)] := by simp [tcs, tc]
theorem tcs_at (l : List (Int × List UInt8)) (i : Nat) (h : i < l.length) : (tcs l)[i * 2]? = some (.int .i64 l[i].1) ∧ (tcs l)[i * 2 + 1]? = some (.string (S l[i].2)) := by
  induction l generalizing i with
  | nil => simp at h
  | cons t l ih =>
    cases i with
    | zero => simp [tcs, tc]
    | succ i =>
      have := ih i (by simpa using h)
      have e : tcs (t :: l) = .int .i64 t.1 :: .string (S t.2) :: tcs l := by simp [tcs, tc]
      rw [e, show (i + 1) * 2 = i * 2 + 1 + 1 by omega]
      simpa using this

/-- v reads as these tokens (of whichever package). -/
def Rt (w : World) (v : Value) (l : List (Int × List UInt8)) : Prop := Rd w 2 v l.length (tcs l)

/-- The cells of a token. -/
theorem Rt.at {w : World} {a : Option Addr} {n c : Nat} {l : List (Int × List UInt8)} (h : Rt w (.slice a n c) l) {i : Nat} (hi : i < l.length) :
    ∃ b o, a = some ⟨b, o, none⟩ ∧ w.cell? ⟨b, o + i * 2, none⟩ = some (.int .i64 l[i].1) ∧ w.cell? ⟨b, o + i * 2 + 1, none⟩ = some (.string (S l[i].2)) := by
  rcases h.2 with ⟨_, h2⟩ | ⟨b, o, cap, hv, hlt, hc, _⟩
  · omega
  · cases hv
    have := tcs_at l i hi
    exact ⟨b, o, rfl, hc _ _ this.1, hc _ _ this.2⟩
theorem Rt.below' {w w' : World} {v : Value} {l : List (Int × List UInt8)} (h : Rt w v l) (hb : Below w.heap.size w w') : Rt w' v l := Rd.below' h hb
theorem rt_made (w : World) (l : List (Int × List UInt8)) (T : TypeId) : Rt (w.alloc (.cells (tcs l).toArray T)) (.slice (some ⟨w.heap.size, 0, none⟩) l.length l.length) l :=
  ⟨tcs_length l, .inr ⟨w.heap.size, 0, l.length, rfl, fun _ => by simp, fun j u hj => by
    rw [Nat.zero_add, cell_of_row _ w.heap.size _ (tcs l).toArray T (0, 0) (heap_alloc_new w _)]
    simpa using hj, Nat.le_refl _⟩⟩
theorem Rt.shape {w : World} {v : Value} {l : List (Int × List UInt8)} (h : Rt w v l) : ∃ a c, v = .slice a l.length c := by
  exact Rd.shape h

/-! ### append onto what the call owns -/
theorem below_drewN {B : Nat} {a w : World} (h : Below B a w) (n : Nat) : Below B a (w.drewN n) := h.trans ⟨rfl, rfl, rfl, Nat.le_refl _, fun _ _ => rfl⟩
theorem own_drewN {w : World} {base e k n : Nat} {v : Value} {cs : List Value} (h : w.ownsRow base e k v n cs) (m : Nat) : (w.drewN m).ownsRow base e k v n cs := h
theorem Rd.drewN {w : World} {k n : Nat} {v : Value} {cs : List Value} (h : Rd w k v n cs) (m : Nat) : Rd (w.drewN m) k v n cs := h

/-- A slice type and its elements: so many cells, so many bytes. -/
structure SlTy (P : Program) (t e : TypeId) (k bytes : Nat) : Prop where
  ht : P.underlying t = some (.slice e)
  hi : ∃ i z, P.info? e = some i ∧ i.zero = some z ∧ i.size = k ∧ i.bytes = bytes ∧ z.cells.size = k
  hk : 0 < k

theorem SlTy.mk' {P : Program} {t e : TypeId} {k bytes : Nat} {z : Value} (ht : P.underlying t = some (.slice e)) (hi : (P.info? e).map (fun i => (i.zero, i.size, i.bytes)) = some (some z, k, bytes)) (hz : z.cells.size = k) (hk : 0 < k) : SlTy P t e k bytes := by
  obtain ⟨i, hi, h0, h1, h2⟩ := info_parts hi
  exact ⟨ht, ⟨i, z, hi, h0, h1, h2, hz⟩, hk⟩

theorem grownBy_trans {a b c : World} {row : Option Nat} (h : a.grownBy b row) (k : b.grownBy c row) : a.grownBy c row :=
  ⟨k.os.trans h.os, k.tape.trans h.tape, k.output.trans h.output, Nat.le_trans h.size k.size, fun i hi hne => (k.block i (Nat.lt_of_lt_of_le hi h.size) hne).trans (h.block i hi hne)⟩

section
variable {P : Program} {ops : Array Oper} {rest : List Oper} {o : Oper} {a : Act} {Q : Exit → Act → World → Prop} {w1 : World}

/-- 'v = append(v, x)': x has been laid into a new block of its own. -/
theorem wp_app {t e k bytes : Nat} {v : Value} {n : Nat} {xs news : List Value} (T : SlTy P t e k bytes) (hgd : o.guard = none) (s x : Operand) (ho : o.op = .call { callee := .builtin .append, args := #[s, x], argTypes := #[t, t] })
    (B : Nat) (hown : w1.ownsRow B e k v n xs) (hs : a.eval s = v) {g : Nat} (hx : a.eval x = .slice (some ⟨g, 0, none⟩) 1 1) (hg : g = w1.heap.size)
    (hn : news.length = k) (h1 : ∀ u ∈ news, u.oneCell' = true) (hlen : (n + 1) * bytes ≤ 140737488355328) (hlen2 : n ≤ 1000000000000000) (hB : B ≤ w1.heap.size)
    (h : ∀ v' w', w'.ownsRow B e k v' (n + 1) (xs ++ news) → Below B w1 w' → w1.grownBy w' v.ownBlock → wpList P ops Q rest (a.put o.dst v') w') :
    wpList P ops Q (o :: rest) a (w1.alloc (.cells news.toArray e)) := by
  subst hg
  obtain ⟨i, z, hi, hz, hsz, hby, hzs⟩ := T.hi
  refine wpList_append_own (w1.alloc (.cells news.toArray e)) hgd s x t ho B e i z k bytes T.ht hi hz hsz hby hzs T.hk v n xs hs (hown.alloc _) ⟨w1.heap.size, 0, none⟩ 1 1 news hx (by omega) ?_ h1 (by unfold maxLen; omega) hlen (by simp; omega) ?_
  · intro j u hj
    rw [addr_add, cell_of_row _ w1.heap.size _ news.toArray e (0, 0) (heap_alloc_new w1 _)]
    simpa using hj
  · intro v' w' hown' hgrow _
    have hg2 : w1.grownBy w' v.ownBlock := grownBy_trans (World.grownBy_alloc w1 _ _) hgrow
    exact h v' w' hown' ((Below.refl B w1).grown hg2 hB (fun j hj => (hown.lt j hj).1)) hg2

/-- 'v = append(v, l...)': l a slice that is read. -/
theorem wp_app_all {t e k bytes : Nat} {v vs : Value} {n m : Nat} {xs news : List Value} (T : SlTy P t e k bytes) (hgd : o.guard = none) (s x : Operand) (ho : o.op = .call { callee := .builtin .append, args := #[s, x], argTypes := #[t, t] })
    (B : Nat) (hown : w1.ownsRow B e k v n xs) (hrd : Rd w1 k vs m news) (hs : a.eval s = v) (hx : a.eval x = vs)
    (h1 : ∀ u ∈ news, u.oneCell' = true) (hlen : (n + m) * bytes ≤ 140737488355328) (hlen2 : n + m ≤ 1000000000000000) (hB : B ≤ w1.heap.size)
    (h : ∀ v' w', w'.ownsRow B e k v' (n + m) (xs ++ news) → Below B w1 w' → w1.grownBy w' v.ownBlock → wpList P ops Q rest (a.put o.dst v') w') :
    wpList P ops Q (o :: rest) a w1 := by
  obtain ⟨i, z, hi, hz, hsz, hby, hzs⟩ := T.hi
  rcases hrd.2 with ⟨rfl | ⟨p, c', rfl⟩, rfl⟩ | ⟨b, off, cap, rfl, hlt, hc, _⟩
  · have h0 : news = [] := List.eq_nil_of_length_eq_zero (by rw [hrd.1]; simp)
    subst h0
    refine wpList_append_own_none hgd s x t ho B e i k T.ht hi v n xs hs hown hx ?_
    have := h v w1 (by simpa using hown) (Below.refl _ _) ⟨rfl, rfl, rfl, Nat.le_refl _, fun _ _ _ => rfl⟩
    exact this
  · have h0 : news = [] := List.eq_nil_of_length_eq_zero (by rw [hrd.1]; simp)
    subst h0
    refine wpList_append_own w1 hgd s x t ho B e i z k bytes T.ht hi hz hsz hby hzs T.hk v n xs hs hown p 0 c' [] hx hrd.1 ?_ h1 (by unfold maxLen; omega) hlen hB ?_
    · intro j u hj; simp at hj
    · intro v' w' hown' hgrow _
      exact h v' w' hown' ((Below.refl B w1).grown hgrow hB (fun j hj => (hown.lt j hj).1)) hgrow
  · refine wpList_append_own w1 hgd s x t ho B e i z k bytes T.ht hi hz hsz hby hzs T.hk v n xs hs hown ⟨b, off, none⟩ m cap news hx hrd.1 ?_ h1 (by unfold maxLen; omega) hlen hB ?_
    · intro j u hj
      rw [addr_add]
      exact hc j u hj
    · intro v' w' hown' hgrow _
      exact h v' w' hown' ((Below.refl B w1).grown hgrow hB (fun j hj => (hown.lt j hj).1)) hgrow
end

/-! ### a row of cells in a block of its own -/
theorem row_lt {W : World} {g : Nat} {o : Obj} (h : W.heap[g]? = some o) : g < W.heap.size := (Array.getElem?_eq_some_iff.1 h).1
theorem row_free {W : World} {g : Nat} {r : Array Value} {T : TypeId} (h : W.heap[g]? = some (.cells r T (0, 0))) (j : Nat) : W.frozen? ⟨g, j, none⟩ = false := by simp [World.frozen?, h]
theorem row_cell {W : World} {g : Nat} {r : Array Value} {T : TypeId} {f : Nat × Nat} (h : W.heap[g]? = some (.cells r T f)) (j : Nat) : W.cell? ⟨g, j, none⟩ = r[j]? := cell_of_row W g j r T f h
theorem row_set {W : World} {g : Nat} {r : Array Value} {T : TypeId} {f : Nat × Nat} (h : W.heap[g]? = some (.cells r T f)) (j : Nat) (v : Value) : (W.setCell ⟨g, j, none⟩ v).heap[g]? = some (.cells (r.set! j v) T f) := by simp [World.setCell, Array.getElem?_modify, h]

/-! ### a struct of two cells in a block of its own -/
theorem pair_cell0 {W : World} {g : Nat} {a b : Value} {T : TypeId} {f : Nat × Nat} (h : W.heap[g]? = some (.cells #[a, b] T f)) : W.cell? ⟨g, 0, none⟩ = some a := by simp [World.cell?, h]
theorem pair_cell1 {W : World} {g : Nat} {a b : Value} {T : TypeId} {f : Nat × Nat} (h : W.heap[g]? = some (.cells #[a, b] T f)) : W.cell? ⟨g, 1, none⟩ = some b := by simp [World.cell?, h]
theorem pair_free {W : World} {g : Nat} {a b : Value} {T : TypeId} (h : W.heap[g]? = some (.cells #[a, b] T (0, 0))) (j : Nat) : W.frozen? ⟨g, j, none⟩ = false := by simp [World.frozen?, h]
theorem pair_lt {W : World} {g : Nat} {o : Obj} (h : W.heap[g]? = some o) : g < W.heap.size := (Array.getElem?_eq_some_iff.1 h).1
theorem pair_set {W : World} {g : Nat} {a b : Value} {T : TypeId} {f : Nat × Nat} (h : W.heap[g]? = some (.cells #[a, b] T f)) (c d : Value) :
    ((W.setCell ⟨g, 0, none⟩ c).setCell ⟨g, 1, none⟩ d).heap[g]? = some (.cells #[c, d] T f) := by simp [World.setCell, Array.getElem?_modify, h]
theorem pair_set1 {W : World} {g : Nat} {a b : Value} {T : TypeId} {f : Nat × Nat} (h : W.heap[g]? = some (.cells #[a, b] T f)) (d : Value) :
    (W.setCell ⟨g, 1, none⟩ d).heap[g]? = some (.cells #[a, d] T f) := by simp [World.setCell, Array.getElem?_modify, h]
theorem below_pair {w W : World} {o : Obj} (h : Below (w.alloc o).heap.size (w.alloc o) W) : W.heap[w.heap.size]? = some o ∧ Below w.heap.size w W :=
  ⟨(h.block _ (by simp)).trans (heap_alloc_new _ _), ((Below.refl _ _).alloc (Nat.le_refl _) _).trans (h.mono (by simp))⟩
theorem alloc2_first (w : World) (a b : Obj) : ((w.alloc a).alloc b).heap[w.heap.size]? = some a := (Below.heap_alloc (w.alloc a) b w.heap.size (by simp)).trans (heap_alloc_new w a)
theorem alloc2_second (w : World) (a b : Obj) : ((w.alloc a).alloc b).heap[w.heap.size + 1]? = some b := by
  have := heap_alloc_new (w.alloc a) b
  simpa using this
theorem below_setCell2 {B g : Nat} {a w : World} (h : Below B a w) (hg : B ≤ g) (i k : Nat) (c d : Value) : Below B a ((w.setCell ⟨g, i, none⟩ c).setCell ⟨g, k, none⟩ d) :=
  (h.setCell (p := ⟨g, i, none⟩) hg c).setCell (p := ⟨g, k, none⟩) hg d

theorem tcs_one {l : List (Int × List UInt8)} : ∀ u ∈ tcs l, u.oneCell' = true := by
  intro u hu
  simp only [tcs, List.mem_flatMap, tc, List.mem_cons, List.not_mem_nil, or_false] at hu
  obtain ⟨t, _, rfl | rfl⟩ := hu <;> rfl
theorem tc_one {a : Int} {s : ByteArray} : ∀ u ∈ [Value.int .i64 a, .string s], u.oneCell' = true := by
  intro u hu; simp at hu; rcases hu with rfl | rfl <;> rfl
theorem byte_one {a : Int} : ∀ u ∈ [Value.int .u8 a], u.oneCell' = true := by
  intro u hu; simp at hu; rcases hu with rfl; rfl

/-- 'l[:min(len(l), n)]'. -/
theorem take_min {α : Type} (l : List α) (n : Nat) : l.take (if (n : Int) < (l.length : Int) then (n : Int) else (l.length : Int)).toNat = l.take n := by
  split
  · simp
  · rw [List.take_of_length_le (by simp), List.take_of_length_le (by omega)]
/-- 's[k:k+1]'. -/
@[go_sem] theorem drop_take_one {l : List UInt8} {k : Nat} (h : k < l.length) : (l.take (k + 1)).drop k = [l[k]] := by
  rw [List.take_succ_eq_append_getElem h, List.drop_append_of_le_length (by simp; omega)]
  simp
theorem take_drop_self {α : Type} (l : List α) (i : Nat) : (l.take i).drop i = [] := List.drop_eq_nil_of_le (by simp; omega)
theorem take_drop_snoc {α : Type} {l : List α} {i m : Nat} (h : m < l.length) (hi : i ≤ m) : (l.take (m + 1)).drop i = (l.take m).drop i ++ [l[m]] := by
  rw [List.take_succ_eq_append_getElem h, List.drop_append_of_le_length (by simp; omega)]
theorem take_snoc {α : Type} (l : List α) (k : Nat) (h : k < l.length) : l.take (k + 1) = l.take k ++ [l[k]] := List.take_succ_eq_append_getElem h

theorem take_succ_eq {α : Type} {a b : List α} {k : Nat} (h1 : k < a.length) (h2 : k < b.length) (h : a.take k = b.take k) (he : a[k] = b[k]) : a.take (k + 1) = b.take (k + 1) := by
  rw [List.take_succ_eq_append_getElem h1, List.take_succ_eq_append_getElem h2, h, he]

end Go.Proofs.YtjfikkjaifdkiaaGreatDoor

namespace Go.Proofs.YtjfikkjaifdkiaaGreatDoor
open Go.RowKit

/-- Behind an append: in the row where it was, or in a new one. -/
def Near (w : World) (v v' : Value) : Prop := v'.ownBlock = v.ownBlock ∨ ∃ g, v'.ownBlock = some g ∧ w.heap.size ≤ g

section
variable {P : Program}

theorem append_near (w : World) (base : Nat) (t ty e : TypeId) (i : TypeInfo) (z : Value) (ht : P.underlying t = some (.slice e)) (hi : P.info? e = some i) (hz : i.zero = some z)
    (v : Value) (n : Nat) (xs : List Value) (hown : w.ownsRow base e i.size v n xs)
    (a : Addr) (m c : Nat) (news : List Value) (hl : news.length = m * i.size) (hnews : ∀ j u, news[j]? = some u → w.cell? (a.add j) = some u) (h1 : ∀ u ∈ news, u.oneCell' = true)
    (h63 : n + m ≤ maxLen) (hbytes : (n + m) * i.bytes ≤ 140737488355328) {v' : Value} {w' : World}
    (hr' : (Builtin.append_ #[t, t] ty #[v, .slice (some a) m c]).run P w = .ok v' w') : Near w v v' := by
  have hsmall : n + m ≤ 9223372036854775807 := by simp only [maxLen] at h63; omega
  rcases hown.2 with ⟨rfl, rfl⟩ | ⟨g, cap, cur, rfl, hbg, hg, hnc, hcm, hcs, htake⟩
  · by_cases hm : m = 0
    · subst hm
      have hn : news = [] := List.eq_nil_of_length_eq_zero (by simpa using hl)
      subst hn
      have hr : (Builtin.append_ #[t, t] ty #[.slice none 0 0, .slice (some a) 0 c]).run P w = .ok (.slice none 0 0) w := by
        simp [Builtin.append_, run_underlying ht, sizeOf, typeInfo, hi, Builtin.lenOf, Builtin.firstCells, loadCells, loadCellsFrom]
      rw [hr] at hr'
      cases hr'
      exact .inl rfl
    · have hr := run_append_nil (P := P) w t ty e i z ht hi hz a m c news hl hnews (by omega) (by omega) (by have hb := hbytes; simp only [Nat.zero_add] at hb; omega)
      rw [hr] at hr'
      cases hr'
      exact .inr ⟨_, rfl, Nat.le_refl _⟩
  · by_cases hroom : n + m ≤ cap
    · have hfit : n * i.size + news.length ≤ cur.size := by rw [hl, hcs, ← Nat.add_mul]; exact Nat.mul_le_mul_right _ hroom
      have hr := run_append_room (P := P) w t ty e i ht hi g n cap cur hg a m c news hl hnews h1 hroom hfit
      rw [hr] at hr'
      cases hr'
      exact .inl rfl
    · have holds : ∀ j u, xs[j]? = some u → w.cell? ((⟨g, 0, none⟩ : Addr).add j) = some u := hown.cells (g := g) rfl
      have hr := run_append_grow (P := P) w t ty e i z ht hi hz ⟨g, 0, none⟩ n cap xs hown.1 holds a m c news hl hnews (by omega) (by omega) (growslice_fits (by omega) hbytes)
      rw [hr] at hr'
      cases hr'
      exact .inr ⟨_, rfl, Nat.le_refl _⟩

variable {ops : Array Oper} {rest : List Oper} {o : Oper} {a : Act} {Q : Exit → Act → World → Prop} {w1 : World}

/-- 'v = append(v, x)' with one element that has been laid into a new block of its own: and where it then lies. -/
theorem wp_app2 {t e k bytes : Nat} {v : Value} {n : Nat} {xs news : List Value} (T : SlTy P t e k bytes) (hgd : o.guard = none) (s x : Operand) (ho : o.op = .call { callee := .builtin .append, args := #[s, x], argTypes := #[t, t] })
    (B : Nat) (hown : w1.ownsRow B e k v n xs) (hs : a.eval s = v) {g : Nat} (hx : a.eval x = .slice (some ⟨g, 0, none⟩) 1 1) (hg : g = w1.heap.size)
    (hn : news.length = k) (h1 : ∀ u ∈ news, u.oneCell' = true) (hlen : (n + 1) * bytes ≤ 140737488355328) (hlen2 : n ≤ 1000000000000000) (hB : B ≤ w1.heap.size)
    (h : ∀ v' w', w'.ownsRow B e k v' (n + 1) (xs ++ news) → Below B w1 w' → w1.grownBy w' v.ownBlock → Near w1 v v' → wpList P ops Q rest (a.put o.dst v') w') :
    wpList P ops Q (o :: rest) a (w1.alloc (.cells news.toArray e)) := by
  subst hg
  obtain ⟨i, z, hi, hz, hsz, hby, hzs⟩ := T.hi
  subst hsz
  subst hby
  have hnews : ∀ j u, news[j]? = some u → (w1.alloc (.cells news.toArray e)).cell? ((⟨w1.heap.size, 0, none⟩ : Addr).add j) = some u := by
    intro j u hj
    rw [addr_add, cell_of_row _ w1.heap.size _ news.toArray e (0, 0) (heap_alloc_new w1 _)]
    simpa using hj
  refine wpList_plain hgd fun _ hK => ?_
  obtain ⟨v', w', hr, h2, h3, _⟩ := run_append_own (P := P) (w1.alloc (.cells news.toArray e)) B t o.type e i z i.size i.bytes T.ht hi hz rfl rfl hzs T.hk v n xs (hown.alloc _) ⟨w1.heap.size, 0, none⟩ 1 1 news (by omega) hnews h1 (by unfold maxLen; omega) hlen (by simp; omega)
  have hnear := append_near (w1.alloc (.cells news.toArray e)) B t o.type e i z T.ht hi hz v n xs (hown.alloc _) ⟨w1.heap.size, 0, none⟩ 1 1 news (by omega) hnews h1 (by unfold maxLen; omega) hlen hr
  have hg2 : w1.grownBy w' v.ownBlock := grownBy_trans (World.grownBy_alloc w1 _ _) h3
  have hfin := h v' w' h2 ((Below.refl B w1).grown hg2 hB (fun j hj => (hown.lt j hj).1)) hg2 (by
    rcases hnear with h | ⟨g', hg', hle⟩
    · exact .inl h
    · exact .inr ⟨g', hg', by simp at hle; omega⟩)
  unfold Oper.wp execOp
  simp only [ho, resolve, invoke, builtin, Sem.run_bind, Sem.run_pure, Result.andThen_ok, List.map_toArray, List.map_cons, List.map_nil, hs, hx, hr]
  exact hK _ _ hfin

/-- 'v = append(v, l...)': l a slice that is read: and where it then lies. -/
theorem wp_app_all2 {t e k bytes : Nat} {v vs : Value} {n m : Nat} {xs news : List Value} (T : SlTy P t e k bytes) (hgd : o.guard = none) (s x : Operand) (ho : o.op = .call { callee := .builtin .append, args := #[s, x], argTypes := #[t, t] })
    (B : Nat) (hown : w1.ownsRow B e k v n xs) (hrd : Rd w1 k vs m news) (hs : a.eval s = v) (hx : a.eval x = vs)
    (h1 : ∀ u ∈ news, u.oneCell' = true) (hlen : (n + m) * bytes ≤ 140737488355328) (hlen2 : n + m ≤ 1000000000000000) (hB : B ≤ w1.heap.size)
    (h : ∀ v' w', w'.ownsRow B e k v' (n + m) (xs ++ news) → Below B w1 w' → w1.grownBy w' v.ownBlock → Near w1 v v' → wpList P ops Q rest (a.put o.dst v') w') :
    wpList P ops Q (o :: rest) a w1 := by
  obtain ⟨i, z, hi, hz, hsz, hby, hzs⟩ := T.hi
  subst hsz
  subst hby
  have go : ∀ (ad : Addr) (c : Nat), vs = .slice (some ad) m c → (∀ j u, news[j]? = some u → w1.cell? (ad.add j) = some u) → wpList P ops Q (o :: rest) a w1 := by
    intro ad c hv hnews
    subst hv
    refine wpList_plain hgd fun _ hK => ?_
    obtain ⟨v', w', hr, h2, h3, _⟩ := run_append_own (P := P) w1 B t o.type e i z i.size i.bytes T.ht hi hz rfl rfl hzs T.hk v n xs hown ad m c news hrd.1 hnews h1 (by unfold maxLen; omega) hlen hB
    have hnear := append_near w1 B t o.type e i z T.ht hi hz v n xs hown ad m c news hrd.1 hnews h1 (by unfold maxLen; omega) hlen hr
    have hfin := h v' w' h2 ((Below.refl B w1).grown h3 hB (fun j hj => (hown.lt j hj).1)) h3 hnear
    unfold Oper.wp execOp
    simp only [ho, resolve, invoke, builtin, Sem.run_bind, Sem.run_pure, Result.andThen_ok, List.map_toArray, List.map_cons, List.map_nil, hs, hx, hr]
    exact hK _ _ hfin
  rcases hrd.2 with ⟨hv | ⟨p, c', hv⟩, h0⟩ | ⟨b, off, cap, hv, hlt, hc, _⟩
  · subst hv
    subst h0
    have h0 : news = [] := List.eq_nil_of_length_eq_zero (by rw [hrd.1]; simp)
    subst h0
    refine wpList_append_own_none hgd s x t ho B e i i.size T.ht hi v n xs hs hown hx ?_
    exact h v w1 (by simpa using hown) (Below.refl _ _) ⟨rfl, rfl, rfl, Nat.le_refl _, fun _ _ _ => rfl⟩ (.inl rfl)
  · subst h0
    have h0 : news = [] := List.eq_nil_of_length_eq_zero (by rw [hrd.1]; simp)
    subst h0
    exact go p c' hv (by intro j u hj; simp at hj)
  · exact go ⟨b, off, none⟩ cap hv (by intro j u hj; rw [addr_add]; exact hc j u hj)
end

/-! ### lists of lists of tokens -/
/-- v reads as these lists. -/
def Rts (w : World) (v : Value) (ls : List (List (Int × List UInt8))) : Prop :=
  ∃ vs : List Value, Rd w 1 v ls.length vs ∧ ∀ (i : Nat) (u : Value) (l : List (Int × List UInt8)), vs[i]? = some u → ls[i]? = some l → Rt w u l

/-- The call owns the row; what it holds reads as these lists, and lies elsewhere. -/
def Oll (w : World) (B : Nat) (T : TypeId) (v : Value) (ls : List (List (Int × List UInt8))) : Prop :=
  ∃ vs : List Value, w.ownsRow B T 1 v ls.length vs ∧ ∀ (i : Nat) (u : Value) (l : List (Int × List UInt8)), vs[i]? = some u → ls[i]? = some l → Rt w u l ∧ ∀ b, u.ownBlock = some b → b < w.heap.size ∧ v.ownBlock ≠ some b ∧ B ≤ b

theorem Rts.below' {w w' : World} {v : Value} {ls : List (List (Int × List UInt8))} (h : Rts w v ls) (hb : Below w.heap.size w w') : Rts w' v ls := by
  obtain ⟨vs, h1, h2⟩ := h
  exact ⟨vs, h1.below' hb, fun i u l hu hl => (h2 i u l hu hl).below' hb⟩
theorem Rts.drewN {w : World} {v : Value} {ls : List (List (Int × List UInt8))} (h : Rts w v ls) (n : Nat) : Rts (w.drewN n) v ls := h
theorem Rts.shape {w : World} {v : Value} {ls : List (List (Int × List UInt8))} (h : Rts w v ls) : ∃ a c, v = .slice a ls.length c := by
  obtain ⟨vs, h1, _⟩ := h
  exact h1.shape
theorem Rts.nil (w : World) : Rts w (.slice none 0 0) [] := ⟨[], ⟨rfl, .inl ⟨.inl rfl, rfl⟩⟩, by simp⟩
/-- One of the lists. -/
theorem Rts.at {w : World} {a : Option Addr} {n c : Nat} {ls : List (List (Int × List UInt8))} (h : Rts w (.slice a n c) ls) {i : Nat} (hi : i < ls.length) :
    ∃ b o u, a = some ⟨b, o, none⟩ ∧ w.cell? ⟨b, o + i, none⟩ = some u ∧ Rt w u ls[i] ∧ b < w.heap.size ∧ ls.length ≤ c := by
  obtain ⟨vs, h1, h2⟩ := h
  have hl : vs.length = ls.length := by rw [h1.1, Nat.mul_one]
  rcases h1.2 with ⟨_, h0⟩ | ⟨b, o, cap, hv, hlt, hc, hcap⟩
  · omega
  · cases hv
    exact ⟨b, o, vs[i]'(by omega), rfl, hc _ _ (List.getElem?_eq_getElem (by omega)), h2 i _ _ (List.getElem?_eq_getElem (by omega)) (List.getElem?_eq_getElem hi), hlt (by omega), hcap⟩

theorem Oll.own {w : World} {B : Nat} {T : TypeId} {v : Value} {ls : List (List (Int × List UInt8))} (h : Oll w B T v ls) : ∃ vs, w.ownsRow B T 1 v ls.length vs := by
  obtain ⟨vs, h1, _⟩ := h
  exact ⟨vs, h1⟩
theorem Oll.under {w : World} {B : Nat} {T : TypeId} {v : Value} {ls : List (List (Int × List UInt8))} (h : Oll w B T v ls) : Under w.heap.size v := by
  obtain ⟨vs, h1, _⟩ := h
  exact own_under h1
theorem Oll.shape {w : World} {B : Nat} {T : TypeId} {v : Value} {ls : List (List (Int × List UInt8))} (h : Oll w B T v ls) : ∃ a c, v = .slice a ls.length c := by
  obtain ⟨vs, h1, _⟩ := h
  exact own_shape h1
theorem Oll.rts {w : World} {B : Nat} {T : TypeId} {v : Value} {ls : List (List (Int × List UInt8))} (h : Oll w B T v ls) : Rts w v ls := by
  obtain ⟨vs, h1, h2⟩ := h
  exact ⟨vs, own_rd h1, fun i u l hu hl => (h2 i u l hu hl).1⟩
theorem Oll.drewN {w : World} {B : Nat} {T : TypeId} {v : Value} {ls : List (List (Int × List UInt8))} (h : Oll w B T v ls) (n : Nat) : Oll (w.drewN n) B T v ls := h
theorem Oll.nil (w : World) (B : Nat) (T : TypeId) : Oll w B T (.slice none 0 0) [] := ⟨[], World.ownsRow_nil _ _ _ _, by simp⟩
theorem Oll.made (w : World) (B : Nat) (T : TypeId) (hB : B ≤ w.heap.size) : Oll (w.alloc (.cells #[] T)) B T (.slice (some ⟨w.heap.size, 0, none⟩) 0 0) [] :=
  ⟨[], World.ownsRow_made w #[] 0 hB (by decide) rfl, by simp⟩
theorem Oll.below' {w w' : World} {B : Nat} {T : TypeId} {v : Value} {ls : List (List (Int × List UInt8))} (h : Oll w B T v ls) (hb : Below w.heap.size w w') : Oll w' B T v ls := by
  obtain ⟨vs, h1, h2⟩ := h
  exact ⟨vs, own_below h1 (own_under h1) hb, fun i u l hu hl => ⟨(h2 i u l hu hl).1.below' hb, fun b hu' => ⟨Nat.lt_of_lt_of_le ((h2 i u l hu hl).2 b hu').1 hb.size, ((h2 i u l hu hl).2 b hu').2⟩⟩⟩
theorem Oll.mono {w : World} {B B' : Nat} {T : TypeId} {v : Value} {ls : List (List (Int × List UInt8))} (h : Oll w B T v ls) (hB : B' ≤ B) : Oll w B' T v ls := by
  obtain ⟨vs, h1, h2⟩ := h
  exact ⟨vs, own_mono h1 hB, fun i u l hu hl => ⟨(h2 i u l hu hl).1, fun b hb => ⟨((h2 i u l hu hl).2 b hb).1, ((h2 i u l hu hl).2 b hb).2.1, Nat.le_trans hB ((h2 i u l hu hl).2 b hb).2.2⟩⟩⟩

/-- A block below turns: what the call owns stays. -/
theorem Oll.apart {w w' : World} {B g : Nat} {T : TypeId} {v : Value} {ls : List (List (Int × List UInt8))} (h : Oll w B T v ls) (hg : w.grownBy w' (some g)) (hlt : g < B) : Oll w' B T v ls := by
  obtain ⟨vs, h1, h2⟩ := h
  refine ⟨vs, h1.kept hg ?_, fun i u l hu hl => ⟨Rd.grown (h2 i u l hu hl).1 hg fun b hb e => ?_, fun b hb => ⟨Nat.lt_of_lt_of_le ((h2 i u l hu hl).2 b hb).1 hg.size, ((h2 i u l hu hl).2 b hb).2⟩⟩⟩
  · right; intro e; have := (h1.lt g e).1; omega
  · cases e; have := ((h2 i u l hu hl).2 _ hb).2.2; omega

section
variable {P : Program} {ops : Array Oper} {rest : List Oper} {o : Oper} {a : Act} {Q : Exit → Act → World → Prop} {w1 : World}
/-- 'v = append(v, u)': u a list. -/
theorem wp_oll {t e bytes : Nat} {v u : Value} {ls : List (List (Int × List UInt8))} {l : List (Int × List UInt8)} (T : SlTy P t e 1 bytes) (hgd : o.guard = none) (s x : Operand) (ho : o.op = .call { callee := .builtin .append, args := #[s, x], argTypes := #[t, t] })
    (B : Nat) (hown : Oll w1 B e v ls) (hu : Rt w1 u l) (hsep : ∀ b, u.ownBlock = some b → b < w1.heap.size ∧ v.ownBlock ≠ some b ∧ B ≤ b) (hs : a.eval s = v) {g : Nat} (hx : a.eval x = .slice (some ⟨g, 0, none⟩) 1 1) (hg : g = w1.heap.size)
    (hone : u.oneCell' = true) (hlen : (ls.length + 1) * bytes ≤ 140737488355328) (hlen2 : ls.length ≤ 1000000000000000) (hB : B ≤ w1.heap.size)
    (h : ∀ v' w', Oll w' B e v' (ls ++ [l]) → Below B w1 w' → wpList P ops Q rest (a.put o.dst v') w') :
    wpList P ops Q (o :: rest) a (w1.alloc (.cells #[u] e)) := by
  obtain ⟨vs, h1, h2⟩ := hown
  have hvl : vs.length = ls.length := by rw [h1.1, Nat.mul_one]
  refine wp_app2 (news := [u]) T hgd s x ho B h1 hs hx hg rfl (by simpa using hone) hlen hlen2 hB fun v' w' hown' hbel hgr hnear => h v' w' ⟨vs ++ [u], by simpa using hown', ?_⟩ hbel
  intro i u' l' hu' hl'
  have key : ∀ (u0 : Value) (l0 : List (Int × List UInt8)), Rt w1 u0 l0 → (∀ b, u0.ownBlock = some b → b < w1.heap.size ∧ v.ownBlock ≠ some b ∧ B ≤ b) → Rt w' u0 l0 ∧ ∀ b, u0.ownBlock = some b → b < w'.heap.size ∧ v'.ownBlock ≠ some b ∧ B ≤ b := by
    intro u0 l0 hr hs0
    refine ⟨Rd.grown hr hgr fun b hb e => (hs0 b hb).2.1 e.symm, fun b hb => ⟨Nat.lt_of_lt_of_le (hs0 b hb).1 hgr.size, ?_, (hs0 b hb).2.2⟩⟩
    rcases hnear with hv | ⟨g', hg', hle⟩
    · rw [hv]; exact (hs0 b hb).2.1
    · rw [hg']; intro e; cases e; have := (hs0 b hb).1; omega
  by_cases hi : i < vs.length
  · rw [List.getElem?_append_left hi] at hu'
    rw [List.getElem?_append_left (by omega)] at hl'
    exact key u' l' (h2 i u' l' hu' hl').1 (h2 i u' l' hu' hl').2
  · rw [List.getElem?_append_right (by omega)] at hu'
    rw [List.getElem?_append_right (by omega)] at hl'
    have e1 : i - vs.length = 0 := by
      have := (List.getElem?_eq_some_iff.1 hu').1
      simpa using this
    have e2 : i - ls.length = 0 := by omega
    rw [e1] at hu'
    rw [e2] at hl'
    simp at hu' hl'
    subst hu'
    subst hl'
    exact key u l hu hsep
end

end Go.Proofs.YtjfikkjaifdkiaaGreatDoor

namespace Go.Proofs.YtjfikkjaifdkiaaGreatDoor
open Go.RowKit

theorem setCells_row (P : Program) (w : World) (g o : Nat) (cur : Array Value) (t : TypeId) (vs : List Value) (hg : w.heap[g]? = some (.cells cur t (0, 0))) (hl : o + vs.length ≤ cur.size) (h1 : ∀ v ∈ vs, v.oneCell' = true) :
    w.setCells g o vs = w.setRow g (cur.toList.take o ++ vs ++ cur.toList.drop (o + vs.length)).toArray := by
  have a := run_storeCells_at P g o t vs 0 cur w hg (by simpa using hl) h1
  have b := run_storeCells_cells (P := P) g o vs 0 w (fun j hj => by rw [row_cell hg]; simp; omega) (fun j hj => row_free hg _) h1
  rw [a] at b
  simp only [Nat.add_zero] at b
  injection b with _ b
  exact b.symm

/-- So many of the first elements. -/
theorem own_prefix {w : World} {B e k n g c : Nat} {xs : List Value} (h : w.ownsRow B e k (.slice (some ⟨g, 0, none⟩) n c) n xs) {i : Nat} (hi : i ≤ n) : w.ownsRow B e k (.slice (some ⟨g, 0, none⟩) i c) i (xs.take (i * k)) := by
  have hle : i * k ≤ n * k := Nat.mul_le_mul_right _ hi
  refine ⟨by rw [List.length_take, h.1]; omega, ?_⟩
  rcases h.2 with ⟨h2, _⟩ | ⟨g', cap, cur, hv, hb, hg, hn, hc, hs, ht⟩
  · cases h2
  · cases hv
    refine .inr ⟨g, c, cur, rfl, hb, hg, by omega, hc, hs, ?_⟩
    rw [← ht, List.take_take, Nat.min_eq_left hle]

/-- Cells laid behind the first i elements. -/
theorem own_lay {w : World} {B e k i g c m : Nat} {xs news : List Value} (P : Program) (h : w.ownsRow B e k (.slice (some ⟨g, 0, none⟩) i c) i xs) (hm : news.length = m * k) (hc : i + m ≤ c) (h1 : ∀ v ∈ news, v.oneCell' = true) :
    (w.setCells g (i * k) news).ownsRow B e k (.slice (some ⟨g, 0, none⟩) (i + m) c) (i + m) (xs ++ news) ∧ w.grownBy (w.setCells g (i * k) news) (some g) := by
  rcases h.2 with ⟨h2, _⟩ | ⟨g', cap, cur, hv, hb, hg, hn, hcm, hs, ht⟩
  · cases h2
  · cases hv
    have hle : (i + m) * k ≤ c * k := Nat.mul_le_mul_right _ hc
    rw [Nat.add_mul] at hle
    rw [setCells_row P w g (i * k) cur e news hg (by omega) h1]
    refine ⟨⟨by rw [List.length_append, h.1, hm, Nat.add_mul], .inr ⟨g, c, _, rfl, hb, setRow_heap w g cur _ e _ hg, hc, hcm, ?_, ?_⟩⟩, ⟨rfl, rfl, rfl, by simp, fun k _ hk => setRow_other w g k _ (fun e => hk (by rw [e]))⟩⟩
    · simp only [List.size_toArray, List.length_append, List.length_take, List.length_drop, Array.length_toList]
      omega
    · rw [ht, Nat.add_mul, ← hm, ← h.1, ← List.length_append]
      exact List.take_left
/-- Cells laid behind what is owned: nothing turns in it. -/
theorem own_spoil {w : World} {B e k i g c o : Nat} {xs news : List Value} (P : Program) (h : w.ownsRow B e k (.slice (some ⟨g, 0, none⟩) i c) i xs) (ho : i * k ≤ o) (hc : o + news.length ≤ c * k) (h1 : ∀ v ∈ news, v.oneCell' = true) :
    (w.setCells g o news).ownsRow B e k (.slice (some ⟨g, 0, none⟩) i c) i xs ∧ w.grownBy (w.setCells g o news) (some g) := by
  rcases h.2 with ⟨h2, _⟩ | ⟨g', cap, cur, hv, hb, hg, hn, hcm, hs, ht⟩
  · cases h2
  · cases hv
    rw [setCells_row P w g o cur e news hg (by omega) h1]
    refine ⟨⟨h.1, .inr ⟨g, c, _, rfl, hb, setRow_heap w g cur _ e _ hg, hn, hcm, ?_, ?_⟩⟩, ⟨rfl, rfl, rfl, by simp, fun k _ hk => setRow_other w g k _ (fun e => hk (by rw [e]))⟩⟩
    · simp only [List.size_toArray, List.length_append, List.length_take, List.length_drop, Array.length_toList]
      omega
    · have hlen : (cur.toList.take o).length = o := by rw [List.length_take, Array.length_toList]; omega
      rw [List.append_assoc, List.take_append_of_le_length (by rw [hlen]; exact ho), List.take_take, Nat.min_eq_left ho, ht]
theorem own_size {w : World} {B e k n g c : Nat} {xs : List Value} (h : w.ownsRow B e k (.slice (some ⟨g, 0, none⟩) n c) n xs) : n ≤ c ∧ c ≤ maxLen := by
  rcases h.2 with ⟨h2, _⟩ | ⟨g', cap, cur, hv, hb, hg, hn, hcm, hs, ht⟩
  · cases h2
  · cases hv; exact ⟨hn, hcm⟩
theorem own_row {w : World} {B e k n g c : Nat} {xs : List Value} (h : w.ownsRow B e k (.slice (some ⟨g, 0, none⟩) n c) n xs) : ∃ cur, w.heap[g]? = some (.cells cur e (0, 0)) ∧ cur.size = c * k := by
  rcases h.2 with ⟨h2, _⟩ | ⟨g', cap, cur, hv, hb, hg, hn, hcm, hs, ht⟩
  · cases h2
  · cases hv; exact ⟨cur, hg, hs⟩


/-- 'copy' of so many elements of k cells each. -/
theorem run_copyK {P : Program} (w : World) (dT sT ty elem : TypeId) (k b o dLen dCap : Nat) (a : Addr) (sLen sCap m : Nat) (cs : List Value)
    (hu : P.underlying dT = some (.slice elem)) (hs : (P.info? elem).map (·.size) = some k) (hm : Nat.min sLen dLen = m) (hn : cs.length = m * k)
    (hsrc : ∀ j v, cs[j]? = some v → w.cell? (a.add j) = some v) (hc : ∀ j, j < cs.length → (w.cell? ⟨b, o + j, none⟩).isSome = true) (hf : ∀ j, j < cs.length → w.frozen? ⟨b, o + j, none⟩ = false) (h1 : ∀ v ∈ cs, v.oneCell' = true) :
    (Builtin.copy_ #[dT, sT] ty #[.slice (some ⟨b, o, none⟩) dLen dCap, .slice (some a) sLen sCap]).run P w = .ok (goInt m) (w.setCells b o cs) := by
  have hl := run_loadCells_list (P := P) w a cs hsrc
  have hst := run_storeCells_cells (P := P) b o cs 0 w (by simpa using hc) (by simpa using hf) h1
  cases hq : P.info? elem with
  | none => simp [hq] at hs
  | some i =>
    have hi : i.size = k := by simpa [hq] using hs
    simp [Builtin.copy_, run_underlying hu, Builtin.lenOf, Builtin.firstCells, sizeOf, typeInfo, hq, hi, hm, ← hn, hl, hst]
theorem grownBy_drew {w w' : World} {row : Option Nat} (h : w.drew.grownBy w' row) : w.grownBy w' row := ⟨h.os, h.tape, h.output, h.size, h.block⟩
/-- Elements laid between others, the tail first. -/
theorem own_mid {w : World} {B e k n i g c : Nat} {xs news : List Value} (P : Program) (h : w.ownsRow B e k (.slice (some ⟨g, 0, none⟩) n c) n xs) (hi : i ≤ n) (hm : news.length = k) (hc : n + 1 ≤ c) (h1 : ∀ v ∈ xs, v.oneCell' = true) (h2 : ∀ v ∈ news, v.oneCell' = true) :
    ((w.setCells g ((i + 1) * k) (xs.drop (i * k))).setCells g (i * k) news).ownsRow B e k (.slice (some ⟨g, 0, none⟩) (n + 1) c) (n + 1) (xs.take (i * k) ++ news ++ xs.drop (i * k)) ∧
      w.grownBy ((w.setCells g ((i + 1) * k) (xs.drop (i * k))).setCells g (i * k) news) (some g) := by
  have hp := own_prefix h hi
  rcases h.2 with ⟨h3, _⟩ | ⟨g', cap, cur, hv, hb, hg, hn, hcm, hs, ht⟩
  · cases h3
  · cases hv
    have hxl := h.1
    have hik : i * k ≤ n * k := Nat.mul_le_mul_right _ hi
    have hle : (n + 1) * k ≤ c * k := Nat.mul_le_mul_right _ hc
    have e1 : (i + 1) * k = i * k + k := Nat.succ_mul _ _
    have e2 : (n + 1) * k = n * k + k := Nat.succ_mul _ _
    have hdl : (xs.drop (i * k)).length = n * k - i * k := by rw [List.length_drop, hxl]
    have hcl : cur.toList.length = c * k := by rw [Array.length_toList, hs]
    have htk : cur.toList.take (i * k) = xs.take (i * k) := by rw [← ht, List.take_take, Nat.min_eq_left hik]
    rw [setCells_row P w g ((i + 1) * k) cur e _ hg (by rw [hdl, e1]; omega) (fun v hv => h1 v (List.mem_of_mem_drop hv))]
    obtain ⟨arr, harr⟩ : ∃ arr, arr = cur.toList.take ((i + 1) * k) ++ xs.drop (i * k) ++ cur.toList.drop ((i + 1) * k + (xs.drop (i * k)).length) := ⟨_, rfl⟩
    rw [← harr]
    have hg1 := setRow_heap w g cur arr.toArray e (0, 0) hg
    have hal : arr.length = c * k := by
      rw [harr]
      simp only [List.length_append, List.length_take, List.length_drop, hcl, hxl]
      omega
    rw [setCells_row P _ g (i * k) arr.toArray e news hg1 (by simp only [List.size_toArray]; omega) h2]
    have hat : arr.take (i * k) = xs.take (i * k) := by
      rw [harr, List.append_assoc, List.take_append_of_le_length (by rw [List.length_take, hcl]; omega), List.take_take, Nat.min_eq_left (by omega), htk]
    have had : arr.drop (i * k + news.length) = xs.drop (i * k) ++ cur.toList.drop ((i + 1) * k + (xs.drop (i * k)).length) := by
      rw [harr, List.append_assoc, List.drop_append_of_le_length (by rw [List.length_take, hcl]; omega), List.drop_eq_nil_of_le (by rw [List.length_take, hcl]; omega), List.nil_append]
    have hg2 := setRow_heap (w.setRow g arr.toArray) g arr.toArray (arr.toArray.toList.take (i * k) ++ news ++ arr.toArray.toList.drop (i * k + news.length)).toArray e (0, 0) hg1
    refine ⟨⟨by simp only [List.length_append, List.length_take, hdl, hxl]; omega, .inr ⟨g, c, _, rfl, hb, hg2, hc, hcm, ?_, ?_⟩⟩, ?_⟩
    · simp only [List.size_toArray, List.length_append, List.length_take, List.length_drop, hal]
      omega
    · simp only [hat, had]
      rw [← List.append_assoc, List.take_append_of_le_length (by simp only [List.length_append, List.length_take, hdl, hxl]; omega), List.take_of_length_le (by simp only [List.length_append, List.length_take, hdl, hxl]; omega)]
    · exact grownBy_trans (b := w.setRow g arr.toArray) ⟨rfl, rfl, rfl, by simp, fun k _ hk => setRow_other w g k _ (fun e => hk (by rw [e]))⟩ ⟨rfl, rfl, rfl, by simp, fun k _ hk => setRow_other _ g k _ (fun e => hk (by rw [e]))⟩

end Go.Proofs.YtjfikkjaifdkiaaGreatDoor

namespace Go.Proofs.YtjfikkjaifdkiaaGreatDoor
open Go.RowKit

/-- Nothing turns but what p tells, and what is new. -/
structure Kw (w w' : World) (p : Nat → Prop) : Prop where
  os : w'.os = w.os
  tape : w'.tape = w.tape
  output : w'.output = w.output
  size : w.heap.size ≤ w'.heap.size
  block : ∀ k, k < w.heap.size → ¬ p k → w'.heap[k]? = w.heap[k]?
theorem Kw.refl (w : World) (p : Nat → Prop) : Kw w w p := ⟨rfl, rfl, rfl, Nat.le_refl _, fun _ _ _ => rfl⟩
theorem Kw.trans {a b c : World} {p q : Nat → Prop} (h : Kw a b p) (k : Kw b c q) (hq : ∀ j, j < a.heap.size → q j → p j) : Kw a c p :=
  ⟨k.os.trans h.os, k.tape.trans h.tape, k.output.trans h.output, Nat.le_trans h.size k.size, fun j hj hp => (k.block j (Nat.lt_of_lt_of_le hj h.size) fun hqj => hp (hq j hj hqj)).trans (h.block j hj hp)⟩
theorem Kw.mono {a b : World} {p q : Nat → Prop} (h : Kw a b p) (hq : ∀ j, p j → q j) : Kw a b q := ⟨h.os, h.tape, h.output, h.size, fun j hj hn => h.block j hj fun hp => hn (hq j hp)⟩
theorem Kw.of_grown {w w' : World} {row : Option Nat} (h : w.grownBy w' row) : Kw w w' fun j => row = some j := ⟨h.os, h.tape, h.output, h.size, fun j hj hn => h.block j hj fun e => hn e.symm⟩
theorem Kw.of_below {w w' : World} {B : Nat} (h : Below B w w') : Kw w w' fun j => B ≤ j := ⟨h.os, h.tape, h.output, h.size, fun j _ hn => h.block j (Nat.lt_of_not_le hn)⟩
theorem Kw.below {w w' : World} {B : Nat} {p : Nat → Prop} (h : Kw w w' p) (hp : ∀ j, p j → B ≤ j) (hB : B ≤ w.heap.size) : Below B w w' :=
  ⟨h.os, h.tape, h.output, h.size, fun j hj => h.block j (Nat.lt_of_lt_of_le hj hB) fun hpj => absurd (hp j hpj) (by omega)⟩
theorem Kw.drewN (w : World) (m : Nat) (p : Nat → Prop) : Kw w (w.drewN m) p := ⟨rfl, rfl, rfl, Nat.le_refl _, fun _ _ _ => rfl⟩
theorem Kw.alloc (w : World) (o : Obj) (p : Nat → Prop) : Kw w (w.alloc o) p := ⟨rfl, rfl, rfl, by simp, fun j hj _ => Below.heap_alloc w o j hj⟩
theorem Kw.set (w : World) (b o : Nat) (v : Value) : Kw w (w.setCell ⟨b, o, none⟩ v) fun j => j = b :=
  ⟨rfl, rfl, rfl, (by simp [World.setCell]), fun k _ hk => Below.heap_setCell _ _ _ k fun e => hk e⟩
theorem Kw.row {w w' : World} {p : Nat → Prop} {B e k n : Nat} {v : Value} {xs : List Value} (h : w.ownsRow B e k v n xs) (hk : Kw w w' p) (hp : ∀ g, v.ownBlock = some g → ¬ p g) : w'.ownsRow B e k v n xs := by
  rcases h.2 with ⟨hv, h0⟩ | ⟨g, cap, cur, rfl, hBg, hg, hnc, hcm, hcs, ht⟩
  · exact ⟨h.1, .inl ⟨hv, h0⟩⟩
  · exact ⟨h.1, .inr ⟨g, cap, cur, rfl, hBg, (hk.block g (row_lt hg) (hp g rfl)).trans hg, hnc, hcm, hcs, ht⟩⟩
theorem Kw.rd {w w' : World} {p : Nat → Prop} {k n : Nat} {v : Value} {cs : List Value} (h : Rd w k v n cs) (hk : Kw w w' p) (hp : ∀ g, v.ownBlock = some g → ¬ p g) : Rd w' k v n cs :=
  h.same hk.size fun b hb hlt => hk.block b hlt (hp b hb)

/-- A row that lies alone in its block. -/
def Ro (w : World) (b : Nat) (T : TypeId) (cs : List Value) : Prop := w.heap[b]? = some (.cells cs.toArray T (0, 0))
theorem Ro.lt {w : World} {b : Nat} {T : TypeId} {cs : List Value} (h : Ro w b T cs) : b < w.heap.size := row_lt h
theorem Ro.cell {w : World} {b : Nat} {T : TypeId} {cs : List Value} (h : Ro w b T cs) {i : Nat} {u : Value} (hi : cs[i]? = some u) : w.cell? ⟨b, i, none⟩ = some u := by rw [row_cell h]; simpa using hi
theorem Ro.free {w : World} {b : Nat} {T : TypeId} {cs : List Value} (h : Ro w b T cs) (i : Nat) : w.frozen? ⟨b, i, none⟩ = false := row_free h i
theorem Ro.set {w : World} {b : Nat} {T : TypeId} {cs : List Value} (h : Ro w b T cs) (i : Nat) (u : Value) : Ro (w.setCell ⟨b, i, none⟩ u) b T (cs.set i u) := by
  have := row_set h i u
  simpa [Ro] using this
theorem Ro.kw {w w' : World} {p : Nat → Prop} {b : Nat} {T : TypeId} {cs : List Value} (h : Ro w b T cs) (hk : Kw w w' p) (hp : ¬ p b) : Ro w' b T cs := (hk.block b h.lt hp).trans h
theorem Ro.far {w : World} {b g : Nat} {T : TypeId} {cs : List Value} (h : Ro w b T cs) (hne : b ≠ g) (i : Nat) (u : Value) : Ro (w.setCell ⟨g, i, none⟩ u) b T cs := h.kw (Kw.set w g i u) hne
theorem Ro.ne {w : World} {a b : Nat} {T U : TypeId} {cs ds : List Value} (h : Ro w a T cs) (k : Ro w b U ds) (ht : T ≠ U) : a ≠ b := fun e => by
  subst e
  have := (show w.heap[a]? = _ from h).symm.trans k
  simp at this
  exact ht this.2
theorem Ro.ne_own {w : World} {b : Nat} {T e : TypeId} {cs : List Value} (h : Ro w b T cs) (hte : T ≠ e) {B k n : Nat} {v : Value} {xs : List Value} (hr : w.ownsRow B e k v n xs) : v.ownBlock ≠ some b := fun hg => by
  rcases hr.2 with ⟨rfl, _⟩ | ⟨g', cap, cur, rfl, _, hgb, _⟩
  · simp [Value.ownBlock] at hg
  · obtain rfl : g' = b := by simpa [Value.ownBlock] using hg
    have := (show w.heap[g']? = _ from h).symm.trans hgb
    simp at this
    exact hte this.2

/-- Rows of unlike elements lie apart. -/
theorem own_apart2 {w : World} {B B2 d e k k2 n n2 : Nat} {u v : Value} {xs ys : List Value} (h : w.ownsRow B d k u n xs) (h2 : w.ownsRow B2 e k2 v n2 ys) (hde : d ≠ e) : ∀ b, u.ownBlock = some b → v.ownBlock ≠ some b := by
  intro b hb e'
  rcases h2.2 with ⟨h0, _⟩ | ⟨g', cap, cur, hv, _, hg, _⟩
  · rw [h0] at e'; cases e'
  · subst hv
    injection e' with e'
    have e' : g' = b := e'
    subst e'
    exact (show Ro w g' e cur.toList by rw [Ro]; simpa using hg).ne_own (Ne.symm hde) h hb
end Go.Proofs.YtjfikkjaifdkiaaGreatDoor

namespace Go.Proofs.YtjfikkjaifdkiaaGreatDoor
open Go.RowKit

/-- 'v = append(v, x)' at a step: x lies in a block of its own. -/
theorem step_grow {P : Program} {ops : Array Oper} {o : Oper} {a : Act} {K : Act → World → Prop} {Q : Exit → Act → World → Prop} {E : Prop} {w0 W : World} {t e k bytes : Nat} {v : Value} {n : Nat} {xs news : List Value} (T : SlTy P t e k bytes) (hgd : o.guard = none) (s x : Operand)
    (ho : o.op = .call { callee := .builtin .append, args := #[s, x], argTypes := #[t, t] }) (B : Nat) (hown : w0.ownsRow B e k v n xs) (hs : a.eval s = v) {g : Nat} (hx : a.eval x = .slice (some ⟨g, 0, none⟩) 1 1) (hg : g = w0.heap.size)
    (hW : W = w0.alloc (.cells news.toArray e)) (hn : news.length = k) (h1 : ∀ u ∈ news, u.oneCell' = true) (hlen : (n + 1) * bytes ≤ 140737488355328) (hlen2 : n ≤ 1000000000000000) (hB : B ≤ w0.heap.size)
    (h : ∀ gg cap w', w'.ownsRow B e k (.slice (some ⟨gg, 0, none⟩) (n + 1) cap) (n + 1) (xs ++ news) → w0.grownBy w' v.ownBlock → Near w0 v (.slice (some ⟨gg, 0, none⟩) (n + 1) cap) → Below B w0 w' → K (a.put o.dst (.slice (some ⟨gg, 0, none⟩) (n + 1) cap)) w') :
    if Region.wanted o (yielded ops a.tmps) = true then Oper.wp P o a W K Q else E := by
  subst hg
  subst hW
  obtain ⟨i, z, hi, hz, hsz, hby, hzs⟩ := T.hi
  refine step_append_lies _ hgd s x t ho B e i z k bytes T.ht hi hz hsz hby hzs T.hk v n xs hs (hown.alloc _) ⟨w0.heap.size, 0, none⟩ 1 1 news hx (by omega) (fun j u hj => ?_) h1 (by omega) (by unfold maxLen; omega) hlen (by simp; omega) (w0.heap.size + 1) (by simp) ?_
  · show (w0.alloc (.cells news.toArray e)).cell? _ = _
    rw [addr_add, cell_of_row _ w0.heap.size _ news.toArray e (0, 0) (heap_alloc_new w0 _)]
    simpa using hj
  · intro gg cap w' h2 h3 h4 _
    have hg2 : w0.grownBy w' v.ownBlock := grownBy_trans (World.grownBy_alloc w0 (.cells news.toArray e) v.ownBlock) h3
    refine h gg cap w' h2 hg2 ?_ ((Below.refl B w0).grown hg2 hB (fun j hj => (hown.lt j hj).1))
    rcases h4 with h | h
    · exact .inl h.symm
    · exact .inr ⟨gg, rfl, by omega⟩

/-! ### By hand: a region whose operations are listed -/
section
variable {P : Program} {Q : Exit → Act → World → Prop} {md : Region.Mode} {S : World → Prop}
theorem ops_at {l rest : List Oper} {i : Nat} {oi : Oper} (hd : l.drop i = oi :: rest) : l.toArray[i]? = some oi := by
  have := congrArg (fun k : List Oper => k[0]?) hd
  simpa using this
/-- Operation i is taken first. -/
theorem takeL {l rest : List Oper} (i : Nat) {oi : Oper} {v : Value} {fuel : Nat} {listed : Array Bool} {a : Act} {w : World} (hd : l.drop i = oi :: rest)
    (hs : Region.noSelect l.toArray = true) (hf : Region.free md l.toArray listed i = true) (hr : (Region.ready md l.toArray listed).contains i = true)
    (hQ : ∀ c a w, Q (.panic c) (a.put oi.dst v) w → Q (.panic c) a w) (hS : S w) (hw : Region.wanted oi (yielded l.toArray a.tmps) = true) (hy : ∀ w, S w → (execOp a.eval oi).run P w = .ok (.value v) w)
    (h : wpAnyH P md l.toArray Q S fuel (listed.setIfInBounds i true) (a.put oi.dst v) w) : wpAnyH P md l.toArray Q S (fuel + 1) listed a w :=
  wpAnyH_take (ops_at hd) hs hf hr hQ (.inl ⟨hw, hy⟩) hS h
/-- One of those that may come up comes up. -/
theorem consL {l more : List Oper} {fuel : Nat} {listed : Array Bool} {a : Act} {w : World} {i : Nat} {o : Oper} {rs : List Nat} (ho : l.drop i = o :: more)
    (h : ∀ K' : Act → World → Prop, Shut (∀ a w, S w → (S w → wpAnyH P md l.toArray Q S fuel (listed.setIfInBounds i true) a w) → K' a w) → if Region.wanted o (yielded l.toArray a.tmps) = true then Oper.wp P o a w K' Q else K' (a.put o.dst undef) w)
    (hs : AllReadyH P md l.toArray Q S fuel listed a w rs) : AllReadyH P md l.toArray Q S fuel listed a w (i :: rs) := AllReadyH.cons (ops_at ho) h hs
end
end Go.Proofs.YtjfikkjaifdkiaaGreatDoor

namespace Go.Proofs.YtjfikkjaifdkiaaGreatDoor.Lx

/-- A text: its bytes. -/
abbrev Bytes := List UInt8
/-- A token: its kind, and what it says. -/
abbrev Tok := Int × Bytes

def blank (c : UInt8) : Bool := c == 32 || c == 9 || c == 10
def letter (c : UInt8) : Bool := (decide (97 ≤ c) && decide (c ≤ 122)) || (decide (65 ≤ c) && decide (c ≤ 90))
def digit (c : UInt8) : Bool := decide (49 ≤ c) && decide (c ≤ 57)

/-- What begins here: 2 a gap, 4 a command, 5 and 6 braces, 7 a parameter, 1 a word. -/
def kind : Bytes → Int
  | [] => 0
  | c :: r =>
    if blank c || c == 37 then 2
    else if c == 92 && letter (r.headD 0) then 4
    else if c == 123 then 5
    else if c == 125 then 6
    else if c == 35 && digit (r.headD 0) then 7
    else 1

/-- Does a parameter, a command begin here? -/
def param : Bytes → Bool
  | [] => false
  | c :: r => c == 35 && digit (r.headD 0)
def command : Bytes → Bool
  | [] => false
  | c :: r => c == 92 && letter (r.headD 0)

/-- Blanks and remarks: how many lines end, and what is left. -/
def gap : Bool → Nat → Bytes → Nat × Bytes
  | _, n, [] => (n, [])
  | true, n, c :: r => if c == 10 then gap false n r else gap true n r
  | false, n, c :: r =>
    if blank c then gap false (if c == 10 then n + 1 else n) r
    else if c == 37 then gap true n r
    else (n, c :: r)

/-- A gap's kind. -/
def gapKind (n : Nat) : Int := if 2 ≤ n then 3 else 2

/-- A word: its bytes, and what is left. -/
def word : Bytes → Bytes × Bytes
  | [] => ([], [])
  | [c] => if kind [c] = 1 then ([c], []) else ([], [c])
  | c :: d :: r =>
    if kind (c :: d :: r) = 1 then
      (if c == 92 then (d :: (word r).1, (word r).2) else (c :: (word (d :: r)).1, (word (d :: r)).2))
    else ([], c :: d :: r)

/-- The token that begins here, and what is left. -/
def one : Bytes → Tok × Bytes
  | [] => ((0, []), [])
  | c :: r =>
    if kind (c :: r) = 2 then ((gapKind (gap false 0 (c :: r)).1, []), (gap false 0 (c :: r)).2)
    else if kind (c :: r) = 4 then ((4, r.takeWhile letter), r.dropWhile letter)
    else if kind (c :: r) = 5 then ((5, []), r)
    else if kind (c :: r) = 6 then ((6, []), r)
    else if kind (c :: r) = 7 then ((7, r.take 1), r.drop 1)
    else ((1, (word (c :: r)).1), (word (c :: r)).2)

def lexF : Nat → Bytes → List Tok
  | 0, _ => []
  | _ + 1, [] => []
  | n + 1, c :: r => (one (c :: r)).1 :: lexF n (one (c :: r)).2

/-- The tokens of a text. -/
def lex (s : Bytes) : List Tok := lexF s.length s

def special (c : UInt8) : Bool := blank c || c == 92 || c == 123 || c == 125 || c == 37 || c == 35
def safe (w : Bytes) : Bytes := w.flatMap fun c => if special c then [92, c] else [c]
def textOf (t : Tok) : Bytes :=
  if t.1 = 1 then safe t.2 else if t.1 = 2 then [32] else if t.1 = 3 then [10, 10] else if t.1 = 4 then 92 :: t.2
  else if t.1 = 5 then [123] else if t.1 = 6 then [125] else if t.1 = 7 then 35 :: t.2 else []
/-- A text that has these tokens. -/
def text (l : List Tok) : Bytes := l.flatMap textOf

def may (t : Tok) : Bool :=
  if t.1 = 1 then !t.2.isEmpty
  else if t.1 = 4 then t.2.all letter && !t.2.isEmpty
  else if t.1 = 7 then (match t.2 with | [c] => digit c | _ => false)
  else (t.1 == 2 || t.1 == 3 || t.1 == 5 || t.1 == 6) && t.2.isEmpty
def gaps (k : Int) : Bool := k == 2 || k == 3
/-- May the second one stand behind the first one? -/
def joins (a b : Tok) : Bool := !(a.1 == 1 && b.1 == 1 || gaps a.1 && gaps b.1 || a.1 == 4 && b.1 == 1 && letter (b.2.headD 0))
def rightF : Tok → List Tok → Bool
  | _, [] => true
  | p, t :: r => may t && joins p t && rightF t r
/-- Could a text have these tokens? -/
def right (l : List Tok) : Bool := rightF (0, []) l

/-! ### first facts -/
@[simp] theorem gaps_4 : gaps 4 = false := rfl
@[simp] theorem blank_92 : blank 92 = false := rfl
@[simp] theorem blank_35 : blank 35 = false := rfl
@[simp] theorem blank_37 : blank 37 = false := rfl
@[simp] theorem blank_123 : blank 123 = false := rfl
@[simp] theorem blank_125 : blank 125 = false := rfl
@[simp] theorem blank_32 : blank 32 = true := rfl
@[simp] theorem blank_10 : blank 10 = true := rfl
@[simp] theorem blank_9 : blank 9 = true := rfl
@[simp] theorem letter_0 : letter 0 = false := rfl
@[simp] theorem digit_0 : digit 0 = false := rfl

theorem gap_le (b : Bool) (n : Nat) (l : Bytes) : (gap b n l).2.length ≤ l.length := by
  induction l generalizing b n with
  | nil => cases b <;> simp [gap]
  | cons c r ih =>
    cases b with
    | true => unfold gap; split <;> exact Nat.le_trans (ih _ _) (by simp)
    | false =>
      unfold gap
      split
      · exact Nat.le_trans (ih _ _) (by simp)
      · split
        · exact Nat.le_trans (ih _ _) (by simp)
        · simp

theorem word_le (l : Bytes) : (word l).2.length ≤ l.length := by
  induction l using word.induct with
  | case1 => simp [word]
  | case2 c h => simp [word, h]
  | case3 c h => simp [word, h]
  | case4 c d r h h2 ih => rw [word, if_pos h, if_pos h2]; simp; omega
  | case5 c d r h h2 ih => rw [word, if_pos h, if_neg h2]; simp at ih ⊢; omega
  | case6 c d r h => rw [word, if_neg h]; exact Nat.le_refl _

theorem dropWhile_le (p : UInt8 → Bool) (l : Bytes) : (l.dropWhile p).length ≤ l.length := by
  induction l with
  | nil => simp
  | cons c r ih => rw [List.dropWhile_cons]; split <;> simp <;> omega

theorem word_one {c : UInt8} {r : Bytes} (h : kind (c :: r) = 1) (h2 : c ≠ 92 ∨ r = []) : word (c :: r) = (c :: (word r).1, (word r).2) := by
  cases r with
  | nil => simp [word, h]
  | cons d r =>
    have h3 : (c == 92) = false := by simpa using h2
    rw [word, if_pos h, h3]
    rfl
theorem word_esc {d : UInt8} {r : Bytes} (h : kind (92 :: d :: r) = 1) : word (92 :: d :: r) = (d :: (word r).1, (word r).2) := by
  rw [word, if_pos h]; rfl
theorem word_stop {c : UInt8} {r : Bytes} (h : kind (c :: r) ≠ 1) : word (c :: r) = ([], c :: r) := by
  cases r with
  | nil => simp [word, h]
  | cons d r => rw [word, if_neg h]

theorem one_cons (c : UInt8) (r : Bytes) : one (c :: r) =
    if kind (c :: r) = 2 then ((gapKind (gap false 0 (c :: r)).1, []), (gap false 0 (c :: r)).2)
    else if kind (c :: r) = 4 then ((4, r.takeWhile letter), r.dropWhile letter)
    else if kind (c :: r) = 5 then ((5, []), r)
    else if kind (c :: r) = 6 then ((6, []), r)
    else if kind (c :: r) = 7 then ((7, r.take 1), r.drop 1)
    else ((1, (word (c :: r)).1), (word (c :: r)).2) := rfl

theorem kind_cons (c : UInt8) (r : Bytes) : kind (c :: r) =
    if blank c || c == 37 then 2
    else if c == 92 && letter (r.headD 0) then 4
    else if c == 123 then 5
    else if c == 125 then 6
    else if c == 35 && digit (r.headD 0) then 7
    else 1 := rfl

theorem kind_cases (c : UInt8) (r : Bytes) : kind (c :: r) = 2 ∨ kind (c :: r) = 4 ∨ kind (c :: r) = 5 ∨ kind (c :: r) = 6 ∨ kind (c :: r) = 7 ∨ kind (c :: r) = 1 := by
  rw [kind_cons]; (repeat' split) <;> simp

theorem one_k1 {s : Bytes} (h : kind s = 1) : one s = ((1, (word s).1), (word s).2) := by
  cases s with
  | nil => simp [kind] at h
  | cons c r => rw [one_cons]; simp [h]
theorem one_k2 {s : Bytes} (h : kind s = 2) : one s = ((gapKind (gap false 0 s).1, []), (gap false 0 s).2) := by
  cases s with
  | nil => simp [kind] at h
  | cons c r => rw [one_cons]; simp [h]
theorem one_k4 {c : UInt8} {r : Bytes} (h : kind (c :: r) = 4) : one (c :: r) = ((4, r.takeWhile letter), r.dropWhile letter) := by rw [one_cons]; simp [h]
theorem one_k5 {c : UInt8} {r : Bytes} (h : kind (c :: r) = 5) : one (c :: r) = ((5, []), r) := by rw [one_cons]; simp [h]
theorem one_k6 {c : UInt8} {r : Bytes} (h : kind (c :: r) = 6) : one (c :: r) = ((6, []), r) := by rw [one_cons]; simp [h]
theorem one_k7 {c : UInt8} {r : Bytes} (h : kind (c :: r) = 7) : one (c :: r) = ((7, r.take 1), r.drop 1) := by rw [one_cons]; simp [h]
theorem kind_seven {c : UInt8} {r : Bytes} (h : kind (c :: r) = 7) : c = 35 ∧ r ≠ [] ∧ digit (r.headD 0) = true := by
  rw [kind_cons] at h
  (repeat' split at h) <;> simp at h
  rename_i h1
  rw [Bool.and_eq_true, beq_iff_eq] at h1
  refine ⟨h1.1, ?_, h1.2⟩
  rintro rfl
  simp at h1
theorem kind_four {c : UInt8} {r : Bytes} (h : kind (c :: r) = 4) : c = 92 ∧ r ≠ [] ∧ letter (r.headD 0) = true := by
  rw [kind_cons] at h
  (repeat' split at h) <;> simp at h
  rename_i h1
  rw [Bool.and_eq_true, beq_iff_eq] at h1
  refine ⟨h1.1, ?_, h1.2⟩
  rintro rfl
  simp at h1

theorem kind_two {c : UInt8} {r : Bytes} : kind (c :: r) = 2 ↔ (blank c || c == 37) = true := by
  rw [kind_cons]
  constructor
  · intro h
    split at h
    · assumption
    · (repeat' split at h) <;> simp at h
  · intro h; rw [if_pos h]

theorem one_lt (c : UInt8) (r : Bytes) : (one (c :: r)).2.length ≤ r.length := by
  rw [one_cons]
  by_cases h2 : kind (c :: r) = 2
  · rw [if_pos h2]
    have hk := kind_two.1 h2
    show (gap false 0 (c :: r)).2.length ≤ r.length
    rw [gap]
    by_cases hb : blank c = true
    · rw [if_pos hb]; exact gap_le _ _ _
    · rw [if_neg hb]
      have h37 : (c == 37) = true := by simpa [hb] using hk
      rw [if_pos h37]; exact gap_le _ _ _
  rw [if_neg h2]
  by_cases h4 : kind (c :: r) = 4
  · rw [if_pos h4]; exact dropWhile_le _ _
  rw [if_neg h4]
  by_cases h5 : kind (c :: r) = 5
  · rw [if_pos h5]; exact Nat.le_refl _
  rw [if_neg h5]
  by_cases h6 : kind (c :: r) = 6
  · rw [if_pos h6]; exact Nat.le_refl _
  rw [if_neg h6]
  by_cases h7 : kind (c :: r) = 7
  · rw [if_pos h7]; simp
  rw [if_neg h7]
  have hk : kind (c :: r) = 1 := by rcases kind_cases c r with h | h | h | h | h | h <;> first | exact h | contradiction
  show (word (c :: r)).2.length ≤ r.length
  cases r with
  | nil => simp [word, hk]
  | cons d r =>
    rw [word, if_pos hk]
    split
    · have := word_le r; simp; omega
    · exact word_le (d :: r)

theorem lexF_fuel (n : Nat) : ∀ (m : Nat) (s : Bytes), s.length ≤ n → s.length ≤ m → lexF n s = lexF m s := by
  induction n with
  | zero => intro m s h _; cases s with
    | nil => cases m <;> rfl
    | cons c r => simp at h
  | succ n ih =>
    intro m s h h2
    cases s with
    | nil => cases m <;> rfl
    | cons c r =>
      cases m with
      | zero => simp at h2
      | succ m =>
        have := one_lt c r
        simp only [lexF]
        rw [ih m _ (by simp at h; omega) (by simp at h2; omega)]

theorem lex_nil : lex [] = [] := rfl
theorem lex_cons (c : UInt8) (r : Bytes) : lex (c :: r) = (one (c :: r)).1 :: lex (one (c :: r)).2 := by
  have := one_lt c r
  show lexF (r.length + 1) (c :: r) = _
  rw [lexF, lexF_fuel r.length (one (c :: r)).2.length _ this (Nat.le_refl _)]
  rfl
theorem lex_ne {s : Bytes} (h : s ≠ []) : lex s = (one s).1 :: lex (one s).2 := by
  cases s with
  | nil => exact absurd rfl h
  | cons c r => exact lex_cons c r

end Go.Proofs.YtjfikkjaifdkiaaGreatDoor.Lx

namespace Go.Proofs.YtjfikkjaifdkiaaGreatDoor.Mx
open Lx

/-- How deep one is behind a token. -/
def step (d : Nat) (t : Tok) : Nat := if t.1 = 5 then d + 1 else if t.1 = 6 then d - 1 else d
/-- So many tokens till one is out. -/
def close : Nat → List Tok → Option Nat
  | _, [] => none
  | d, t :: r => if step d t = 0 then some 1 else (close (step d t) r).map (· + 1)
/-- So many tokens are in the group that begins here. -/
def group : List Tok → Option Nat
  | [] => none
  | t :: r => if t.1 = 5 then close 0 (t :: r) else none
/-- 'Group': the place behind it, and what is wrong. -/
def groupAt (l : List Tok) (p : Int) : Int × Int :=
  if p < 0 ∨ (l.length : Int) < p then (0, 1) else match group (l.drop p.toNat) with | some n => (p + n, 0) | none => (0, 10)

theorem close_le (l : List Tok) : ∀ d n, close d l = some n → 0 < n ∧ n ≤ l.length := by
  induction l with
  | nil => intro d n h; simp [close] at h
  | cons t r ih =>
    intro d n h
    rw [close] at h
    split at h
    · simp at h; subst h; simp
    · simp only [Option.map_eq_some_iff] at h
      obtain ⟨m, hm, rfl⟩ := h
      have := ih _ _ hm
      simp; omega

theorem group_le {l : List Tok} {n : Nat} (h : group l = some n) : 2 ≤ n ∧ n ≤ l.length := by
  cases l with
  | nil => simp [group] at h
  | cons t r =>
    rw [group] at h
    split at h
    · rename_i h5
      have h1 := close_le _ _ _ h
      rw [close] at h
      have e : step 0 t = 1 := by simp [step, h5]
      rw [e] at h
      simp only [Nat.one_ne_zero, if_false, Option.map_eq_some_iff] at h
      obtain ⟨m, hm, rfl⟩ := h
      have := close_le _ _ _ hm
      omega
    · simp at h

/-- How many Spaces stand first. -/
def spaces : List Tok → Nat
  | [] => 0
  | t :: r => if t.1 = 2 then spaces r + 1 else 0
theorem spaces_le (l : List Tok) : spaces l ≤ l.length := by
  induction l with
  | nil => simp [spaces]
  | cons t r ih => rw [spaces]; split <;> simp <;> omega

/-- What stands within so many groups, and how many tokens these are. -/
def args : Nat → List Tok → Option (List (List Tok) × Nat)
  | 0, _ => some ([], 0)
  | n + 1, l =>
    match group (l.drop (spaces l)) with
    | none => none
    | some g => (args n (l.drop (spaces l + g))).map fun x => (((l.drop (spaces l + 1)).take (g - 2)) :: x.1, spaces l + g + x.2)

/-! ### flat texts -/
/-- One blank for several; none where nothing stands before. -/
def sq : Bool → Bytes → Bytes
  | _, [] => []
  | p, c :: r => if c = 32 then (if p then sq true r else 32 :: sq true r) else c :: sq false r
/-- Without a blank at its end. -/
def trim (s : Bytes) : Bytes := if s.getLast? = some 32 then s.dropLast else s
def squeeze (s : Bytes) : Bytes := trim (sq true s)
/-- Words, and one blank for each gap. -/
def bare (l : List Tok) : Bytes := l.flatMap fun t => if t.1 = 1 then t.2 else if t.1 = 2 ∨ t.1 = 3 then [32] else []
def flat (l : List Tok) : Bytes := squeeze (bare l)

end Go.Proofs.YtjfikkjaifdkiaaGreatDoor.Mx

namespace Go.Proofs.YtjfikkjaifdkiaaGreatDoor.Mx
open Lx

/-- One byte more: what is put out, and whether a blank would be dropped. -/
def stp (x : Bytes × Bool) (c : UInt8) : Bytes × Bool := if c = 32 then (if x.2 then x else (x.1 ++ [32], true)) else (x.1 ++ [c], false)
def st (s : Bytes) : Bytes × Bool := s.foldl stp ([], true)
def sqz (s : Bytes) : Bytes := trim (st s).1
def flatOf (l : List Tok) : Bytes := sqz (bare l)

theorem st_append (a b : Bytes) : st (a ++ b) = b.foldl stp (st a) := by simp [st]
theorem st_snoc (a : Bytes) (c : UInt8) : st (a ++ [c]) = stp (st a) c := by simp [st]
theorem st_congr {a b : Bytes} (h : st a = st b) (c : Bytes) : st (a ++ c) = st (b ++ c) := by rw [st_append, st_append, h]
theorem st_blank2 (a : Bytes) : st (a ++ [32] ++ [32]) = st (a ++ [32]) := by
  rw [st_snoc, st_snoc]
  cases h : (st a).2 <;> simp [stp, h]

theorem last_snoc (a : Bytes) (c : UInt8) : (a ++ [c]).getLast? = some c := by simp

theorem revCases {motive : Bytes → Prop} (nil : motive []) (snoc : ∀ a c, motive a → motive (a ++ [c])) (s : Bytes) : motive s := by
  have : ∀ n (s : Bytes), s.length = n → motive s := by
    intro n
    induction n with
    | zero => intro s h; rw [List.eq_nil_of_length_eq_zero h]; exact nil
    | succ n ih =>
      intro s h
      have hne : s ≠ [] := by rintro rfl; simp at h
      rw [← List.dropLast_concat_getLast hne]
      exact snoc _ _ (ih _ (by simp [h]))
  exact this _ s rfl

/-- Whether a blank would be dropped, told from what was put out. -/
theorem st_flag (s : Bytes) : (st s).2 = true ↔ (st s).1 = [] ∨ (st s).1.getLast? = some 32 := by
  refine revCases (motive := fun s => (st s).2 = true ↔ (st s).1 = [] ∨ (st s).1.getLast? = some 32) (by simp [st]) (fun a c ih => ?_) s
  rw [st_snoc]
  unfold stp
  by_cases hc : c = 32
  · rw [if_pos hc]
    cases h : (st a).2
    · simp
    · simp only [if_true]; exact ih
  · rw [if_neg hc]
    simp [hc]
/-- The same, told from what was read. -/
theorem st_flag2 (a : Bytes) (c : UInt8) : (st (a ++ [c])).2 = decide (c = 32) := by
  rw [st_snoc]
  unfold stp
  by_cases hc : c = 32
  · rw [if_pos hc]
    cases h : (st a).2 <;> simp [hc, h]
  · rw [if_neg hc]; simp [hc]
theorem st_le (s : Bytes) : (st s).1.length ≤ s.length := by
  refine revCases (motive := fun s => (st s).1.length ≤ s.length) (by simp [st]) (fun a c ih => ?_) s
  rw [st_snoc]
  unfold stp
  split
  · split
    · simp; omega
    · simp; omega
  · simp; omega
theorem sqz_le (s : Bytes) : (sqz s).length ≤ s.length := by
  have := st_le s
  unfold sqz trim
  split
  · simp; omega
  · exact this

/-- A blank at the end makes no difference. -/
theorem sqz_blank (s : Bytes) : sqz (s ++ [32]) = sqz s := by
  unfold sqz
  rw [st_snoc]
  unfold stp
  rw [if_pos rfl]
  cases h : (st s).2
  · have hn : ¬ ((st s).1 = [] ∨ (st s).1.getLast? = some 32) := fun e => by rw [(st_flag s).2 e] at h; cases h
    simp only [Bool.false_eq_true, if_false]
    rw [trim, if_pos (last_snoc _ _), List.dropLast_concat, trim, if_neg (fun e => hn (.inr e))]
  · simp
theorem sqz_st {a b : Bytes} (h : st a = st b) : sqz a = sqz b := by unfold sqz; rw [h]

/-! ### the program's words -/
/-- One token more: words, and whether the last one may grow. -/
def wstep (x : List Bytes × Bool) (t : Tok) : List Bytes × Bool :=
  if t.1 = 2 ∨ t.1 = 3 then (x.1, false) else if t.1 = 1 then (if x.2 then (x.1.dropLast ++ [x.1.getLastD [] ++ t.2], true) else (x.1 ++ [t.2], true)) else x
def words (l : List Tok) : List Bytes × Bool := l.foldl wstep ([], false)
theorem words_snoc (l : List Tok) (t : Tok) : words (l ++ [t]) = wstep (words l) t := by simp [words]
theorem bare_snoc (l : List Tok) (t : Tok) : bare (l ++ [t]) = bare l ++ (if t.1 = 1 then t.2 else if t.1 = 2 ∨ t.1 = 3 then [32] else []) := by simp [bare]

theorem join_snoc (ws : List Bytes) (x : Bytes) (h : ws ≠ []) : Lib.join (ws ++ [x]) [32] = Lib.join ws [32] ++ [32] ++ x := by
  match ws, h with
  | w :: r, _ => rw [List.cons_append, Lib.join_cons, Lib.join_cons]; simp [Lib.joinTail]
theorem join_grow (ws : List Bytes) (y x : Bytes) : Lib.join (ws ++ [y ++ x]) [32] = Lib.join (ws ++ [y]) [32] ++ x := by
  cases ws with
  | nil => simp [Lib.join_one]
  | cons w r => rw [List.cons_append, List.cons_append, Lib.join_cons, Lib.join_cons]; simp [Lib.joinTail]

theorem revTok {motive : List Tok → Prop} (nil : motive []) (snoc : ∀ a c, motive a → motive (a ++ [c])) (s : List Tok) : motive s := by
  have : ∀ n (s : List Tok), s.length = n → motive s := by
    intro n
    induction n with
    | zero => intro s h; rw [List.eq_nil_of_length_eq_zero h]; exact nil
    | succ n ih =>
      intro s h
      have hne : s ≠ [] := by rintro rfl; simp at h
      rw [← List.dropLast_concat_getLast hne]
      exact snoc _ _ (ih _ (by simp [h]))
  exact this _ s rfl

/-- What holds between the joined words and the bare text. -/
theorem words_bare (l : List Tok) : ((words l).2 = true → (words l).1 ≠ [] ∧ st (Lib.join (words l).1 [32]) = st (bare l)) ∧ ((words l).2 = false → st (Lib.join (words l).1 [32] ++ [32]) = st (bare l)) := by
  refine revTok (motive := fun l => ((words l).2 = true → (words l).1 ≠ [] ∧ st (Lib.join (words l).1 [32]) = st (bare l)) ∧ ((words l).2 = false → st (Lib.join (words l).1 [32] ++ [32]) = st (bare l))) (by constructor <;> simp [words, bare, st, Lib.join_nil, stp]) (fun a t ih => ?_) l
  rw [words_snoc, bare_snoc]
  unfold wstep
  by_cases h23 : t.1 = 2 ∨ t.1 = 3
  · rw [if_pos h23]
    have h1 : ¬ t.1 = 1 := by omega
    simp only [if_neg h1, if_pos h23]
    refine ⟨fun h => (Bool.noConfusion h), fun _ => ?_⟩
    cases ho : (words a).2
    · rw [← st_congr (ih.2 ho) [32], st_blank2]
    · exact st_congr (ih.1 ho).2 [32]
  · rw [if_neg h23]
    by_cases h1 : t.1 = 1
    · simp only [if_pos h1]
      cases ho : (words a).2
      · simp only [Bool.false_eq_true, if_false]
        refine ⟨fun _ => ⟨by simp, ?_⟩, fun h => (Bool.noConfusion h)⟩
        rw [← st_congr (ih.2 ho) t.2]
        by_cases hw : (words a).1 = []
        · rw [hw, List.nil_append, Lib.join_one, Lib.join_nil, List.nil_append, st_append]
          have e : st [32] = st [] := by simp [st, stp]
          rw [e]; rfl
        · rw [join_snoc _ _ hw]
      · simp only [if_true]
        refine ⟨fun _ => ⟨by simp, ?_⟩, fun h => (Bool.noConfusion h)⟩
        have h2 := ih.1 ho
        rw [join_grow, ← st_congr h2.2 t.2]
        congr 3
        rw [List.getLastD_eq_getLast?, List.getLast?_eq_some_getLast h2.1, Option.getD_some, List.dropLast_concat_getLast]
    · simp only [if_neg h1, if_neg h23, List.append_nil]
      exact ih
/-- The program's flat text is the document's. -/
theorem words_flat (l : List Tok) : sqz (Lib.join (words l).1 [32]) = flatOf l := by
  unfold flatOf
  cases h : (words l).2
  · rw [← sqz_blank, sqz_st ((words_bare l).2 h)]
  · exact sqz_st ((words_bare l).1 h).2

end Go.Proofs.YtjfikkjaifdkiaaGreatDoor.Mx

namespace Go.Proofs.YtjfikkjaifdkiaaGreatDoor
open Go.RowKit

theorem tyTok : SlTy Tryz.prog 27 64 2 24 := SlTy.mk' (z := .agg #[.int .i64 0, .string ⟨#[]⟩]) Tryz.underlying27 (by kernel_rfl) rfl (by decide)
theorem tyRef : SlTy Tryz.prog 35 72 2 24 := SlTy.mk' (z := .agg #[.int .i64 0, .string ⟨#[]⟩]) Tryz.underlying35 (by kernel_rfl) rfl (by decide)

theorem run_neq_ref (a b : Lx.Tok) (w : World) : (binOp .neq 72 (.agg #[.int .i64 a.1, .string (S a.2)]) (.agg #[.int .i64 b.1, .string (S b.2)])).run Tryz.prog w = .ok (.bool (a != b)) w := by
  obtain ⟨a, s⟩ := a
  obtain ⟨b, t⟩ := b
  by_cases h : a = b <;> by_cases h2 : s = t <;> simp [go_sem, h, h2, bne]

theorem eq_of_bne {α : Type} [BEq α] [LawfulBEq α] {a b : α} (h : (a != b) = false) : a = b := by simpa [bne] using h
theorem ne_of_bne {α : Type} [BEq α] [LawfulBEq α] {a b : α} (h : (a != b) = true) : a ≠ b := by simpa [bne] using h

set_option maxHeartbeats 400000 in
/-- 'Same': are they the same tokens? -/
theorem same_any (va vb : Value) (la lb : List Lx.Tok) (w : World) (ha : Rt w va la) (hb : Rt w vb lb) (hla : la.length ≤ 1000000000000) (hlb : lb.length ≤ 1000000000000) :
    Calls Tryz.prog 23 #[va, vb] w fun e w' => e = .returned (.bool (la == lb)) ∧ Below w.heap.size w w' := by
  have hne := run_neq_ref
  obtain ⟨aa, ca, rfl⟩ := ha.shape
  obtain ⟨ab, cb, rfl⟩ := hb.shape
  by_cases hlen : la.length = lb.length
  · have HL := Lib.hid hlen
    have hb1 : ((la.length : Int) != (lb.length : Int)) = false := by simp [hlen]
    clear hlen
    go_enter Tryz.func23, Tryz.ntmps23
    go_wp2
    go_loopw [4, 5] (fun _ i wr => ∃ k : Nat, k ≤ la.length ∧ i = .int .i64 k ∧ Hid (la.take k = lb.take k) ∧ Below w.heap.size w wr) (fun _ i _ => la.length - (intOf i).toNat)
    case atStart => exact ⟨0, Nat.zero_le _, rfl, rfl, Below.refl _ _⟩
    case round =>
      obtain ⟨k, hk, rfl, HE, hbw⟩ := hrel
      by_cases hlt : k < la.length
      · have hlt' : k < lb.length := HL.out ▸ hlt
        have ha' := ha.below' hbw
        have hb' := hb.below' hbw
        obtain ⟨b1, o1, rfl, c10, c11⟩ := ha'.at hlt
        obtain ⟨b2, o2, rfl, c20, c21⟩ := hb'.at hlt'
        clear ha' hb' ha hb
        go_wp2
        go_quiet (fail)
        go_wp2
        · have hx : (la[k] != lb[k]) = true := by assumption
          go_ret
          refine ⟨ret_bool ?_, below_drewN hbw _⟩
          have : la ≠ lb := fun e => ne_of_bne hx (by subst e; rfl)
          simp [this]
        · have hx : (la[k] != lb[k]) = false := by assumption
          go_roundw
          case rel => exact ⟨k + 1, by omega, by go_num, take_succ_eq hlt hlt' HE.out (eq_of_bne hx), below_drewN hbw _⟩
          case measure => simp [intOf]; omega
      · have hkl : k = la.length := by omega
        have heq : la = lb := by
          have := HE.out
          rw [hkl, List.take_length, HL.out, List.take_length] at this
          exact this
        have HQ := Lib.hid heq
        clear heq hkl ha hb
        go_wp2
        go_ret
        exact ⟨ret_bool (by simp [HQ.out]), hbw⟩
  · have hb1 : ((la.length : Int) != (lb.length : Int)) = true := by simp [bne]; omega
    go_enter Tryz.func23, Tryz.ntmps23
    go_wp2
    go_ret
    refine ⟨ret_bool ?_, Below.refl _ _⟩
    have : la ≠ lb := fun e => hlen (by rw [e])
    simp [this]

set_option maxHeartbeats 400000 in
/-- 'One': the same token, for the document. -/
theorem one_ref (k : Int) (s : ByteArray) (w : World) :
    Calls Tryz.prog 56 #[.agg #[.int .i64 k, .string s]] w fun e w' => e = .returned (.agg #[.int .i64 k, .string s]) ∧ Below w.heap.size w w' := by
  go_enter Tryz.func56, Tryz.ntmps56
  go_wp2
  exact bodyPost_ret (v := .agg #[.int .i64 k, .string s]) (by simp [results, Tryz.results56, go_sem]) rfl ⟨rfl, ((Below.refl _ _).alloc (Nat.le_refl _) _).alloc (by simp) _⟩

set_option maxHeartbeats 400000 in
/-- 'Refs': the same tokens, for the document. -/
theorem refs_any (v : Value) (l : List Lx.Tok) (w : World) (hl : Rt w v l) (hlen : l.length ≤ 1000000000) :
    Calls Tryz.prog 26 #[v] w fun e w' => ∃ v', e = .returned v' ∧ w'.ownsRow w.heap.size 72 2 v' l.length (tcs l) ∧ Below w.heap.size w w' := by
  obtain ⟨a0, c0, rfl⟩ := hl.shape
  go_enter Tryz.func26, Tryz.ntmps26
  go_wp2
  go_loopw [3, 4] (fun v i wr => ∃ k : Nat, k ≤ l.length ∧ i = .int .i64 k ∧ wr.ownsRow w.heap.size 72 2 v k (tcs (l.take k)) ∧ Below w.heap.size w wr) (fun _ i _ => l.length - (intOf i).toNat)
  case atStart => exact ⟨0, Nat.zero_le _, rfl, World.ownsRow_made w #[] 0 (Nat.le_refl _) (by decide) rfl, (Below.refl _ _).alloc (Nat.le_refl _) _⟩
  case round =>
    obtain ⟨k, hk, rfl, hown, hbw⟩ := hrel
    have hsz := hbw.size
    by_cases hlt : k < l.length
    · obtain ⟨b1, o1, rfl, c10, c11⟩ := (hl.below' hbw).at hlt
      clear hl
      go_wp2_with (first
        | (go_at_call 56; (with_reducible refine (one_ref _ _ _).mono ?_); rintro e w1 ⟨rfl, hb1⟩; have hown1 := own_below hown (own_under hown) hb1; have hsz1 := hb1.size)
        | (at_builtin; go_loud (refine wp_app tyRef rfl _ _ rfl w.heap.size hown1 rfl rfl (by simp) rfl tc_one (by omega) (by omega) (by omega) ?_); intro v2 w2 hown2 hb2 _))
      go_roundw
      case rel => exact ⟨k + 1, by omega, by go_num, (by rw [take_snoc l k hlt, tcs_snoc]; exact hown2), (hbw.trans (hb1.mono hsz)).trans hb2⟩
      case measure => simp [intOf]; omega
    · obtain rfl : k = l.length := by omega
      rw [List.take_length] at hown
      clear hl
      go_wp2
      go_ret
      exact ⟨_, rfl, hown, hbw⟩

/-- What 'Cut' makes of a token. -/
def cut40 (t : Lx.Tok) : Lx.Tok := (t.1, t.2.take 40)

end Go.Proofs.YtjfikkjaifdkiaaGreatDoor

namespace Go.Proofs.YtjfikkjaifdkiaaGreatDoor
open Go.RowKit

/-- What 'Group' answers where the place is one. -/
def gres (p : Nat) : Option Nat → Int × Int
  | some n => ((p : Int) + n, 0)
  | none => (0, 10)
theorem groupAt_in (l : List Lx.Tok) (p : Nat) (hp : p ≤ l.length) : Mx.groupAt l p = gres p (Mx.group (l.drop p)) := by
  unfold Mx.groupAt
  rw [if_neg (by omega), Int.toNat_natCast]
  cases Mx.group (l.drop p) <;> rfl

theorem close_next {l : List Lx.Tok} {p k dd d2 : Nat} (h : k < l.length) (hp : p ≤ k) (hc : Mx.close 0 (l.drop p) = (Mx.close dd (l.drop k)).map (· + (k - p))) (hs : Mx.step dd l[k] = d2) (hd : d2 ≠ 0) :
    Mx.close 0 (l.drop p) = (Mx.close d2 (l.drop (k + 1))).map (· + (k + 1 - p)) := by
  rw [hc, drop_at h, Mx.close, hs, if_neg hd, Option.map_map]
  congr 1
  funext x
  simp; omega
theorem close_stop {l : List Lx.Tok} {p k dd : Nat} (h : k < l.length) (hc : Mx.close 0 (l.drop p) = (Mx.close dd (l.drop k)).map (· + (k - p))) (hs : Mx.step dd l[k] = 0) :
    Mx.close 0 (l.drop p) = some (1 + (k - p)) := by
  rw [hc, drop_at h, Mx.close, hs, if_pos rfl]; rfl

theorem ret_two {a b a' b' : Int} (h1 : a = a') (h2 : b = b') : Ending.returned (.tuple #[.int .i64 a, .int .i64 b]) = .returned (.tuple #[.int .i64 a', .int .i64 b']) := by rw [h1, h2]

set_option maxHeartbeats 1600000 in
theorem refGroup_in (v : Value) (l : List Lx.Tok) (p : Nat) (w : World) (hl : Rt w v l) (hlen : l.length ≤ 1000000000) (hp : p ≤ l.length) :
    Calls Tryz.prog 114 #[v, .int .i64 (p : Int)] w fun e w' => e = .returned (.tuple #[.int .i64 (gres p (Mx.group (l.drop p))).1, .int .i64 (gres p (Mx.group (l.drop p))).2]) ∧ Below w.heap.size w w' := by
  obtain ⟨a0, c0, rfl⟩ := hl.shape
  by_cases hlt : p < l.length
  · obtain ⟨b1, o1, rfl, c10, d1⟩ := hl.at hlt
    clear d1
    have hbe : ((p : Int) == (l.length : Int)) = false := by simp; omega
    cases h5 : (l[p].1 != 5)
    · have h5' : l[p].1 = 5 := by simpa [bne] using h5
      have hg : Mx.group (l.drop p) = Mx.close 0 (l.drop p) := by rw [drop_at hlt, Mx.group, if_pos h5']
      rw [hg]
      clear hg
      have HR := Lib.hid h5'
      clear h5'
      go_enter Tryz.func114, Tryz.ntmps114
      go_wp2_with fail
      clear h5 c10 hbe
      go_loopw [6, 7] (fun d i wr => ∃ k dd : Nat, p ≤ k ∧ k ≤ l.length ∧ i = .int .i64 k ∧ d = .int .i64 dd ∧ dd ≤ k ∧ (k = p ∨ 0 < dd) ∧ Hid (Mx.close 0 (l.drop p) = (Mx.close dd (l.drop k)).map (· + (k - p))) ∧ wr = w) (fun _ i _ => l.length - (intOf i).toNat)
      case atStart => exact ⟨p, 0, Nat.le_refl _, hp, rfl, rfl, Nat.zero_le _, .inl rfl, by simp [Hid], rfl⟩
      case round =>
        obtain ⟨k, dd, hk1, hk2, rfl, rfl, hdk, hor, HC, rfl⟩ := hrel
        by_cases hlk : k < l.length
        · obtain ⟨b2, o2, hb2, c20, d2⟩ := hl.at hlk
          cases hb2
          clear d2
          cases h5 : (l[k].1 == 5)
          · cases h6 : (l[k].1 == 6)
            · have hs : Mx.step dd l[k] = dd := by
                unfold Mx.step; rw [if_neg (by simpa using h5), if_neg (by simpa using h6)]
              have hd0 : 0 < dd := by
                rcases hor with rfl | h
                · have := HR.out; simp [this] at h5
                · exact h
              have hb0 : ((dd : Int) == 0) = false := by simp; omega
              have HN := Lib.hid (close_next hlk hk1 HC.out hs (by omega))
              clear hl hs
              go_wp2_with fail
              go_roundw
              case rel => exact ⟨k + 1, dd, by omega, by omega, by go_num, rfl, by omega, .inr hd0, HN, trivial⟩
              case measure => simp [intOf]; omega
            · have hs : Mx.step dd l[k] = dd - 1 := by
                unfold Mx.step; rw [if_neg (by simpa using h5), if_pos (by simpa using h6)]
              have hd0 : 0 < dd := by
                rcases hor with rfl | h
                · have := HR.out; simp [this] at h5
                · exact h
              cases hb0 : (((dd : Int) - 1) == 0)
              · have hd1 : dd - 1 ≠ 0 := by intro e; have : (dd : Int) - 1 = 0 := by omega
                                            rw [this] at hb0; simp at hb0
                have HN := Lib.hid (close_next hlk hk1 HC.out hs hd1)
                clear hl hs
                go_wp2_with fail
                go_roundw
                case rel => exact ⟨k + 1, dd - 1, by omega, by omega, by go_num, by go_num, by omega, .inr (by omega), HN, trivial⟩
                case measure => simp [intOf]; omega
              · have hd1 : dd - 1 = 0 := by have : (dd : Int) - 1 = 0 := by simpa using hb0
                                            omega
                have HN := Lib.hid (close_stop hlk HC.out (hs.trans hd1))
                clear hl hs
                go_wp2_with fail
                go_ret2
                exact ⟨ret_two (by rw [HN.out]; simp only [gres]; omega) (by rw [HN.out]; rfl), Below.refl _ _⟩
          · have hs : Mx.step dd l[k] = dd + 1 := by
              unfold Mx.step; rw [if_pos (by simpa using h5)]
            have h6 : (l[k].1 == 6) = false := by have : l[k].1 = 5 := by simpa using h5
                                                  rw [this]; rfl
            have hb0 : (((dd : Int) + 1) == 0) = false := by simp; omega
            have HN := Lib.hid (close_next hlk hk1 HC.out hs (by omega))
            clear hl hs
            go_wp2_with fail
            go_roundw
            case rel => exact ⟨k + 1, dd + 1, by omega, by omega, by go_num, by go_num, by omega, .inr (by omega), HN, trivial⟩
            case measure => simp [intOf]; omega
        · have hkl : k = l.length := by omega
          have h0 := HC.out
          rw [hkl, List.drop_length, Mx.close] at h0
          have HN := Lib.hid h0
          clear h0 hl
          go_wp2_with fail
          go_ret2
          exact ⟨ret_two (by rw [HN.out]; rfl) (by rw [HN.out]; rfl), Below.refl _ _⟩
    · have h5' : ¬ l[p].1 = 5 := by simpa [bne] using h5
      have hg : Mx.group (l.drop p) = none := by rw [drop_at hlt, Mx.group, if_neg h5']
      rw [hg]
      clear hg h5' hl
      go_enter Tryz.func114, Tryz.ntmps114
      go_wp2_with fail
      go_ret2
      exact ⟨rfl, Below.refl _ _⟩
  · have he : p = l.length := by omega
    have hg : Mx.group (l.drop p) = none := by rw [he, List.drop_length]; rfl
    rw [hg]
    have hbe : ((p : Int) == (l.length : Int)) = true := by simp; omega
    clear hg hl
    go_enter Tryz.func114, Tryz.ntmps114
    go_wp2_with fail
    go_ret2
    exact ⟨rfl, Below.refl _ _⟩

end Go.Proofs.YtjfikkjaifdkiaaGreatDoor

namespace Go.Proofs
open Go.Shelf
def Tryz.lays169_ren : Go.Shelf.Ren := ⟨fun | 169 => 60 | n => n, fun | 70 => 117 | 9 => 9 | 0 => 0 | 72 => 120 | 37 => 118 | 127 => 166 | 3 => 3 | 5 => 5 | n => n, fun | n => n⟩
theorem Tryz.lays169 : Go.Proofs.Lays.n169 Tryz.prog Tryz.lays169_ren := {
  mixed := by kernel_rfl
  f169 := Tryz.func60.trans (congrArg some (by kernel_rfl))
  t0 := Tryz.underlying0
  a0 := Tryz.isAgg0
  z0 := Tryz.sizeOf0
  v0 := Tryz.zeroValue0
  t3 := Tryz.underlying3
  a3 := Tryz.isAgg3
  z3 := Tryz.sizeOf3
  v3 := Tryz.zeroValue3
  t9 := Tryz.underlying9
  a9 := Tryz.isAgg9
  z9 := Tryz.sizeOf9
  v9 := Tryz.zeroValue9
  t37 := Tryz.underlying118
  a37 := Tryz.isAgg118
  z37 := Tryz.sizeOf118
  v37 := Tryz.zeroValue118
  t70 := Tryz.underlying117
  a70 := Tryz.isAgg117
  z70 := Tryz.sizeOf117
  v70 := Tryz.zeroValue117
  t72 := Tryz.underlying120
  a72 := Tryz.isAgg120
  z72 := Tryz.sizeOf120
  v72 := Tryz.zeroValue120
  t127 := Tryz.underlying166
  a127 := Tryz.isAgg166
  z127 := Tryz.sizeOf166
  v127 := Tryz.zeroValue166 }
theorem Tryz.Builder_Extra_169 : Builder.Extra Tryz.prog Tryz.lays169_ren := {
  sizeBuilder := by kernel_rfl
  liesBuilder := by kernel_rfl
  t5 := Tryz.underlying5
  a5 := Tryz.isAgg5
  z5 := Tryz.sizeOf5
  v5 := Tryz.zeroValue5
  infoByte := by kernel_rfl
  cellsByte := by kernel_rfl
  sizeByte := by kernel_rfl
  neB5 := by decide }
open Go.RowKit in
/-- (*strings.Builder).String: "String returns the accumulated string.": OF A BUILDER THAT HOLDS AT LEAST ONE BYTE. ✋ THE MODEL FREEZES THOSE BYTES IN THE BUFFER (unsafe.String): a later write INTO them ends the model's run without an answer; a later append BEHIND them goes on. The statement's order of evaluation is drawn: one draw. (LAID: no walk: one application.) -/
theorem Tryz.Builder_String (B b : Nat) (l : List UInt8) (w : World) (h : Lib.IsBuilder 120 5 B b (Lib.byteCells l) w) (h0 : l ≠ []) :
    Calls Tryz.prog 60 #[.pointer (some ⟨b, 0, none⟩)] w fun e w' => e = .returned (.string ⟨l.toArray⟩) ∧ Below B w w' := Any.Builder_String Tryz.lays169 Tryz.Builder_Extra_169 B b l w h h0
open Go.RowKit in
/-- (*strings.Builder).String OF A BUILDER THAT HOLDS NO BYTE: the empty string. (Its buffer is nil, or a row of which it has taken nothing yet; where that row has NO capacity the model lays one new block for unsafe.SliceData's 'some address'.) One draw. (LAID: no walk: one application.) -/
theorem Tryz.Builder_String_empty (B b : Nat) (w : World) (h : Lib.IsBuilder 120 5 B b [] w) (hBw : B ≤ w.heap.size) :
    Calls Tryz.prog 60 #[.pointer (some ⟨b, 0, none⟩)] w fun e w' => e = .returned (.string ⟨#[]⟩) ∧ Below B w w' := Any.Builder_String_empty Tryz.lays169 Tryz.Builder_Extra_169 B b w h hBw
open Go.RowKit in
/-- (*strings.Builder).String: "String returns the accumulated string.": WHATEVER THE BUILDER HOLDS. (LAID: no walk: one application.) -/
theorem Tryz.Builder_String_any (B b : Nat) (l : List UInt8) (w : World) (h : Lib.IsBuilder 120 5 B b (Lib.byteCells l) w) (hBw : B ≤ w.heap.size) :
    Calls Tryz.prog 60 #[.pointer (some ⟨b, 0, none⟩)] w fun e w' => e = .returned (.string ⟨l.toArray⟩) ∧ Below B w w' := Any.Builder_String_any Tryz.lays169 Tryz.Builder_Extra_169 B b l w h hBw
def Tryz.lays213_ren : Go.Shelf.Ren := ⟨fun | 213 => 117 | 265 => 123 | n => n, fun | 9 => 9 | 3 => 3 | n => n, fun | n => n⟩
theorem Tryz.lays213 : Go.Proofs.Lays.n213 Tryz.prog Tryz.lays213_ren := {
  mixed := by kernel_rfl
  f213 := Tryz.func117.trans (congrArg some (by kernel_rfl))
  f265 := Tryz.func123.trans (congrArg some (by kernel_rfl))
  t3 := Tryz.underlying3
  a3 := Tryz.isAgg3
  z3 := Tryz.sizeOf3
  v3 := Tryz.zeroValue3
  t9 := Tryz.underlying9
  a9 := Tryz.isAgg9
  z9 := Tryz.sizeOf9
  v9 := Tryz.zeroValue9 }
open Go.RowKit in
/-- internal/bytealg.CompareString (what strings.Compare calls): IT RETURNS 'Lib.compareBytes a b'; the world is as it was. (LAID: no walk: one application.) -/
theorem Tryz.bytealg_CompareString (a b : ByteArray) (w : World) :
    Calls Tryz.prog 117 #[.string a, .string b] w fun e w' => e = .returned (.int .i64 (Lib.compareBytes a.data.toList b.data.toList)) ∧ w' = w := Any.bytealg_CompareString Tryz.lays213 a b w
def Tryz.lays106_ren : Go.Shelf.Ren := ⟨fun | 106 => 97 | 213 => 117 | 265 => 123 | n => n, fun | 9 => 9 | 3 => 3 | n => n, fun | n => n⟩
theorem Tryz.lays106 : Go.Proofs.Lays.n106 Tryz.prog Tryz.lays106_ren := {
  mixed := by kernel_rfl
  f106 := Tryz.func97.trans (congrArg some (by kernel_rfl))
  f213 := Tryz.func117.trans (congrArg some (by kernel_rfl))
  f265 := Tryz.func123.trans (congrArg some (by kernel_rfl))
  t3 := Tryz.underlying3
  a3 := Tryz.isAgg3
  z3 := Tryz.sizeOf3
  v3 := Tryz.zeroValue3
  t9 := Tryz.underlying9
  a9 := Tryz.isAgg9
  z9 := Tryz.sizeOf9
  v9 := Tryz.zeroValue9 }
open Go.RowKit in
/-- strings.Compare: "Compare returns an integer comparing two strings lexicographically. The result will be 0 if a == b, -1 if a < b, and +1 if a > b.": IT RETURNS 'Lib.compareBytes a b'; the world is as it was. (LAID: no walk: one application.) -/
theorem Tryz.strings_Compare (a b : ByteArray) (w : World) :
    Calls Tryz.prog 97 #[.string a, .string b] w fun e w' => e = .returned (.int .i64 (Lib.compareBytes a.data.toList b.data.toList)) ∧ w' = w := Any.strings_Compare Tryz.lays106 a b w
def Tryz.lays137_ren : Go.Shelf.Ren := ⟨fun | 137 => 94 | 217 => 116 | 266 => 122 | n => n, fun | 9 => 9 | 5 => 5 | 3 => 3 | n => n, fun | n => n⟩
theorem Tryz.lays137 : Go.Proofs.Lays.n137 Tryz.prog Tryz.lays137_ren := {
  mixed := by kernel_rfl
  f137 := Tryz.func94.trans (congrArg some (by kernel_rfl))
  f217 := Tryz.func116.trans (congrArg some (by kernel_rfl))
  f266 := Tryz.func122.trans (congrArg some (by kernel_rfl))
  t3 := Tryz.underlying3
  a3 := Tryz.isAgg3
  z3 := Tryz.sizeOf3
  v3 := Tryz.zeroValue3
  t5 := Tryz.underlying5
  a5 := Tryz.isAgg5
  z5 := Tryz.sizeOf5
  v5 := Tryz.zeroValue5
  t9 := Tryz.underlying9
  a9 := Tryz.isAgg9
  z9 := Tryz.sizeOf9
  v9 := Tryz.zeroValue9 }
open Go.RowKit in
/-- strings.IndexByte: "IndexByte returns the index of the first instance of c in s, or -1 if c is not present in s.": IT RETURNS 'Lib.indexByte s c'; the world is as it was. (LAID: no walk: one application.) -/
theorem Tryz.strings_IndexByte (s : ByteArray) (c : Int) (w : World) :
    Calls Tryz.prog 94 #[.string s, .int .u8 c] w fun e w' => e = .returned (.int .i64 (Lib.indexByte s.data.toList c.toNat.toUInt8)) ∧ w' = w := Any.strings_IndexByte Tryz.lays137 s c w
def Tryz.lays217_ren : Go.Shelf.Ren := ⟨fun | 217 => 116 | 266 => 122 | n => n, fun | 9 => 9 | 5 => 5 | 3 => 3 | n => n, fun | n => n⟩
theorem Tryz.lays217 : Go.Proofs.Lays.n217 Tryz.prog Tryz.lays217_ren := {
  mixed := by kernel_rfl
  f217 := Tryz.func116.trans (congrArg some (by kernel_rfl))
  f266 := Tryz.func122.trans (congrArg some (by kernel_rfl))
  t3 := Tryz.underlying3
  a3 := Tryz.isAgg3
  z3 := Tryz.sizeOf3
  v3 := Tryz.zeroValue3
  t5 := Tryz.underlying5
  a5 := Tryz.isAgg5
  z5 := Tryz.sizeOf5
  v5 := Tryz.zeroValue5
  t9 := Tryz.underlying9
  a9 := Tryz.isAgg9
  z9 := Tryz.sizeOf9
  v9 := Tryz.zeroValue9 }
open Go.RowKit Go.Lib in
/-- internal/stringslite.IndexByte (what strings.IndexByte calls): IT RETURNS 'Lib.indexByte s c'; the world is as it was. (LAID: no walk: one application.) -/
theorem Tryz.stringslite_IndexByte (s : ByteArray) (c : Int) (w : World) :
    Calls Tryz.prog 116 #[.string s, .int .u8 c] w fun e w' => e = .returned (.int .i64 (Lib.indexByte s.data.toList c.toNat.toUInt8)) ∧ w' = w := Any.stringslite_IndexByte Tryz.lays217 s c w
def Tryz.lays108_ren : Go.Shelf.Ren := ⟨fun | 108 => 125 | n => n, fun | 28 => 204 | 3 => 3 | 0 => 0 | 4 => 4 | n => n, fun | n => n⟩
theorem Tryz.lays108 : Go.Proofs.Lays.n108 Tryz.prog Tryz.lays108_ren := {
  mixed := by kernel_rfl
  f108 := Tryz.func125.trans (congrArg some (by kernel_rfl))
  t0 := Tryz.underlying0
  a0 := Tryz.isAgg0
  z0 := Tryz.sizeOf0
  v0 := Tryz.zeroValue0
  t3 := Tryz.underlying3
  a3 := Tryz.isAgg3
  z3 := Tryz.sizeOf3
  v3 := Tryz.zeroValue3
  t4 := Tryz.underlying4
  a4 := Tryz.isAgg4
  z4 := Tryz.sizeOf4
  v4 := Tryz.zeroValue4
  t28 := Tryz.underlying204
  a28 := Tryz.isAgg204
  z28 := Tryz.sizeOf204
  v28 := Tryz.zeroValue204 }
open Go.Lib in
/-- slices.Index at []int: "Index returns the index of the first occurrence of v in s, or -1 if not present.": IT RETURNS 'Lib.idxOf (the elements) v'; the world is as it was. 'zs': what the cells behind the slice's address hold (its spare capacity too, if you have it); 'zs.take n': its elements. (LAID: no walk: one application.) -/
theorem Tryz.slices_Index_int (b off n c : Nat) (zs : List Int) (x : Int) (w : World) (hz : n ≤ zs.length) (hbig : n ≤ 9223372036854775807) (hc : ∀ j, j < zs.length → w.cell? ⟨b, off + j, none⟩ = some (.int .i64 (zs.getD j 0))) :
    Calls Tryz.prog 125 #[.slice (some ⟨b, off, none⟩) n c, .int .i64 x] w fun e w' => e = .returned (.int .i64 (Lib.idxOf (zs.take n) x)) ∧ w' = w := Any.slices_Index_int Tryz.lays108 b off n c zs x w hz hbig hc
open Go.Lib in
/-- The same at a slice of length 0, a nil one too: no cell is known, none is asked for. (LAID: no walk: one application.) -/
theorem Tryz.slices_Index_int_empty (a : Option Addr) (c : Nat) (x : Int) (w : World) :
    Calls Tryz.prog 125 #[.slice a 0 c, .int .i64 x] w fun e w' => e = .returned (.int .i64 (Lib.idxOf [] x)) ∧ w' = w := Any.slices_Index_int_empty Tryz.lays108 a c x w
def Tryz.lays107_ren : Go.Shelf.Ren := ⟨fun | 107 => 121 | 108 => 125 | n => n, fun | 28 => 204 | 3 => 3 | 4 => 4 | 0 => 0 | n => n, fun | n => n⟩
theorem Tryz.lays107 : Go.Proofs.Lays.n107 Tryz.prog Tryz.lays107_ren := {
  mixed := by kernel_rfl
  f107 := Tryz.func121.trans (congrArg some (by kernel_rfl))
  f108 := Tryz.func125.trans (congrArg some (by kernel_rfl))
  t0 := Tryz.underlying0
  a0 := Tryz.isAgg0
  z0 := Tryz.sizeOf0
  v0 := Tryz.zeroValue0
  t3 := Tryz.underlying3
  a3 := Tryz.isAgg3
  z3 := Tryz.sizeOf3
  v3 := Tryz.zeroValue3
  t4 := Tryz.underlying4
  a4 := Tryz.isAgg4
  z4 := Tryz.sizeOf4
  v4 := Tryz.zeroValue4
  t28 := Tryz.underlying204
  a28 := Tryz.isAgg204
  z28 := Tryz.sizeOf204
  v28 := Tryz.zeroValue204 }
open Go.Lib in
/-- slices.Contains at []int: "Contains reports whether v is present in s.": IT RETURNS 'elements.contains v'; the world is as it was. ITS CALLEE slices.Index IS MET BY ITS OWN CONTRACT OFF THE SHELF (lay that first): no loop is walked here. (LAID: no walk: one application.) -/
theorem Tryz.slices_Contains_int (b off n c : Nat) (zs : List Int) (x : Int) (w : World) (hz : n ≤ zs.length) (hbig : n ≤ 9223372036854775807) (hc : ∀ j, j < zs.length → w.cell? ⟨b, off + j, none⟩ = some (.int .i64 (zs.getD j 0))) :
    Calls Tryz.prog 121 #[.slice (some ⟨b, off, none⟩) n c, .int .i64 x] w fun e w' => e = .returned (.bool ((zs.take n).contains x)) ∧ w' = w := Any.slices_Contains_int Tryz.lays107 b off n c zs x w hz hbig hc
open Go.Lib in
/-- The same at a slice of length 0, a nil one too. (LAID: no walk: one application.) -/
theorem Tryz.slices_Contains_int_empty (a : Option Addr) (c : Nat) (x : Int) (w : World) :
    Calls Tryz.prog 121 #[.slice a 0 c, .int .i64 x] w fun e w' => e = .returned (.bool false) ∧ w' = w := Any.slices_Contains_int_empty Tryz.lays107 a c x w
def Tryz.lays109_ren : Go.Shelf.Ren := ⟨fun | 109 => 61 | n => n, fun | 31 => 28 | 9 => 9 | 3 => 3 | 0 => 0 | 4 => 4 | n => n, fun | n => n⟩
theorem Tryz.lays109 : Go.Proofs.Lays.n109 Tryz.prog Tryz.lays109_ren := {
  mixed := by kernel_rfl
  f109 := Tryz.func61.trans (congrArg some (by kernel_rfl))
  t0 := Tryz.underlying0
  a0 := Tryz.isAgg0
  z0 := Tryz.sizeOf0
  v0 := Tryz.zeroValue0
  t3 := Tryz.underlying3
  a3 := Tryz.isAgg3
  z3 := Tryz.sizeOf3
  v3 := Tryz.zeroValue3
  t4 := Tryz.underlying4
  a4 := Tryz.isAgg4
  z4 := Tryz.sizeOf4
  v4 := Tryz.zeroValue4
  t9 := Tryz.underlying9
  a9 := Tryz.isAgg9
  z9 := Tryz.sizeOf9
  v9 := Tryz.zeroValue9
  t31 := Tryz.underlying28
  a31 := Tryz.isAgg28
  z31 := Tryz.sizeOf28
  v31 := Tryz.zeroValue28 }
open Go.Lib in
/-- slices.Index at []string: "Index returns the index of the first occurrence of v in s, or -1 if not present.": IT RETURNS 'Lib.idxOfS (the elements) v'; the world is as it was. 'zs': what the cells behind the slice's address hold (its spare capacity too, if you have it); 'zs.take n': its elements. (LAID: no walk: one application.) -/
theorem Tryz.slices_Index_string (b off n c : Nat) (zs : List ByteArray) (x : ByteArray) (w : World) (hz : n ≤ zs.length) (hbig : n ≤ 9223372036854775807) (hc : ∀ j, j < zs.length → w.cell? ⟨b, off + j, none⟩ = some (.string (zs.getD j ByteArray.empty))) :
    Calls Tryz.prog 61 #[.slice (some ⟨b, off, none⟩) n c, .string x] w fun e w' => e = .returned (.int .i64 (Lib.idxOfS (zs.take n) x)) ∧ w' = w := Any.slices_Index_string Tryz.lays109 b off n c zs x w hz hbig hc
open Go.Lib in
/-- The same at a slice of length 0, a nil one too: no cell is known, none is asked for. (LAID: no walk: one application.) -/
theorem Tryz.slices_Index_string_empty (a : Option Addr) (c : Nat) (x : ByteArray) (w : World) :
    Calls Tryz.prog 61 #[.slice a 0 c, .string x] w fun e w' => e = .returned (.int .i64 (Lib.idxOfS [] x)) ∧ w' = w := Any.slices_Index_string_empty Tryz.lays109 a c x w
def Tryz.lays110_ren : Go.Shelf.Ren := ⟨fun | 110 => 31 | 109 => 61 | n => n, fun | 31 => 28 | 9 => 9 | 4 => 4 | 3 => 3 | 0 => 0 | n => n, fun | n => n⟩
theorem Tryz.lays110 : Go.Proofs.Lays.n110 Tryz.prog Tryz.lays110_ren := {
  mixed := by kernel_rfl
  f109 := Tryz.func61.trans (congrArg some (by kernel_rfl))
  f110 := Tryz.func31.trans (congrArg some (by kernel_rfl))
  t0 := Tryz.underlying0
  a0 := Tryz.isAgg0
  z0 := Tryz.sizeOf0
  v0 := Tryz.zeroValue0
  t3 := Tryz.underlying3
  a3 := Tryz.isAgg3
  z3 := Tryz.sizeOf3
  v3 := Tryz.zeroValue3
  t4 := Tryz.underlying4
  a4 := Tryz.isAgg4
  z4 := Tryz.sizeOf4
  v4 := Tryz.zeroValue4
  t9 := Tryz.underlying9
  a9 := Tryz.isAgg9
  z9 := Tryz.sizeOf9
  v9 := Tryz.zeroValue9
  t31 := Tryz.underlying28
  a31 := Tryz.isAgg28
  z31 := Tryz.sizeOf28
  v31 := Tryz.zeroValue28 }
open Go.Lib in
/-- slices.Contains at []string: "Contains reports whether v is present in s.": IT RETURNS 'Lib.containsS (the elements) v', which is true just where v is among them ('Lib.containsS_iff'); the world is as it was. ITS CALLEE slices.Index IS MET BY ITS OWN CONTRACT OFF THE SHELF (lay that first): no loop is walked here. (LAID: no walk: one application.) -/
theorem Tryz.slices_Contains_string (b off n c : Nat) (zs : List ByteArray) (x : ByteArray) (w : World) (hz : n ≤ zs.length) (hbig : n ≤ 9223372036854775807) (hc : ∀ j, j < zs.length → w.cell? ⟨b, off + j, none⟩ = some (.string (zs.getD j ByteArray.empty))) :
    Calls Tryz.prog 31 #[.slice (some ⟨b, off, none⟩) n c, .string x] w fun e w' => e = .returned (.bool (Lib.containsS (zs.take n) x)) ∧ w' = w := Any.slices_Contains_string Tryz.lays110 b off n c zs x w hz hbig hc
open Go.Lib in
/-- The same at a slice of length 0, a nil one too. (LAID: no walk: one application.) -/
theorem Tryz.slices_Contains_string_empty (a : Option Addr) (c : Nat) (x : ByteArray) (w : World) :
    Calls Tryz.prog 31 #[.slice a 0 c, .string x] w fun e w' => e = .returned (.bool false) ∧ w' = w := Any.slices_Contains_string_empty Tryz.lays110 a c x w
end Go.Proofs
