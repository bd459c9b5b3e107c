
/- What every walk of this seat leans on, of no program: texts as lists of bytes in the walk's own rules; slices that are read; slices that the call owns. No condition. -/
import Derived.WalkKit
import Derived.WalkSpells
import Derived.WalkLawsBesides
import Derived.Lib.Hide
import Derived.Lib.Bytealg
import Derived.Laws.AppendOwnNone
namespace Go.Proofs.Ytemdhbeegheefaa
open Go.RowKit

/-- A text of these bytes. -/
def S (l : List UInt8) : ByteArray := ⟨l.toArray⟩

theorem S_data (s : ByteArray) : S s.data.toList = s := rfl
theorem S_inj {a b : List UInt8} (h : S a = S b) : a = b := by
  have := congrArg (fun s : ByteArray => s.data.toList) h
  simpa [S] using this
theorem S_eq {a b : List UInt8} (h : a = b) : S a = S b := by rw [h]
@[simp, go_sem] theorem S_size (l : List UInt8) : (S l).size = l.length := by simp [S, ByteArray.size]
@[simp, go_sem] theorem S_toList (l : List UInt8) : (S l).toList = l := by simp [S]
@[simp, go_sem] theorem S_dataList (l : List UInt8) : (S l).data.toList = l := by simp [S]
@[simp, go_sem] theorem S_append (a b : List UInt8) : S a ++ S b = S (a ++ b) := Go.ByteArray.mk_append_mk a b
@[simp, go_sem] theorem S_extract (l : List UInt8) (i j : Nat) : (S l).extract i j = S ((l.take j).drop i) := by
  apply ByteArray.ext
  apply Array.ext'
  simp [S, ByteArray.data_extract, List.extract_eq_take_drop, List.drop_take]
@[simp, go_sem] theorem S_getElem (l : List UInt8) (i : Nat) (h : i < (S l).size) : (S l)[i] = l[i]'(by simpa using h) := by
  simp [S, ByteArray.getElem_eq_getElem_data]
theorem S_lit (l : List UInt8) : ByteArray.mk l.toArray = S l := rfl
attribute [simp, go_sem] S_lit

/-! ### a byte held against a number, and an ending against an ending -/
theorem u8_beq (c k : UInt8) : ((c.toNat : Int) == (k.toNat : Int)) = (c == k) := by
  rw [Bool.eq_iff_iff]; simp [← UInt8.toNat_inj]; omega
theorem u8_bne (c k : UInt8) : ((c.toNat : Int) != (k.toNat : Int)) = (c != k) := by
  simp only [bne, u8_beq]
@[go_sem] theorem u8_beq_9 (c : UInt8) : ((c.toNat : Int) == 9) = (c == 9) := u8_beq c 9
@[go_sem] theorem u8_bne_9 (c : UInt8) : ((c.toNat : Int) != 9) = (c != 9) := u8_bne c 9
@[go_sem] theorem u8_beq_10 (c : UInt8) : ((c.toNat : Int) == 10) = (c == 10) := u8_beq c 10
@[go_sem] theorem u8_bne_10 (c : UInt8) : ((c.toNat : Int) != 10) = (c != 10) := u8_bne c 10
@[go_sem] theorem u8_beq_32 (c : UInt8) : ((c.toNat : Int) == 32) = (c == 32) := u8_beq c 32
@[go_sem] theorem u8_bne_32 (c : UInt8) : ((c.toNat : Int) != 32) = (c != 32) := u8_bne c 32
@[go_sem] theorem u8_beq_35 (c : UInt8) : ((c.toNat : Int) == 35) = (c == 35) := u8_beq c 35
@[go_sem] theorem u8_bne_35 (c : UInt8) : ((c.toNat : Int) != 35) = (c != 35) := u8_bne c 35
@[go_sem] theorem u8_beq_37 (c : UInt8) : ((c.toNat : Int) == 37) = (c == 37) := u8_beq c 37
@[go_sem] theorem u8_bne_37 (c : UInt8) : ((c.toNat : Int) != 37) = (c != 37) := u8_bne c 37
@[go_sem] theorem u8_beq_45 (c : UInt8) : ((c.toNat : Int) == 45) = (c == 45) := u8_beq c 45
@[go_sem] theorem u8_bne_45 (c : UInt8) : ((c.toNat : Int) != 45) = (c != 45) := u8_bne c 45
@[go_sem] theorem u8_beq_46 (c : UInt8) : ((c.toNat : Int) == 46) = (c == 46) := u8_beq c 46
@[go_sem] theorem u8_bne_46 (c : UInt8) : ((c.toNat : Int) != 46) = (c != 46) := u8_bne c 46
@[go_sem] theorem u8_beq_48 (c : UInt8) : ((c.toNat : Int) == 48) = (c == 48) := u8_beq c 48
@[go_sem] theorem u8_bne_48 (c : UInt8) : ((c.toNat : Int) != 48) = (c != 48) := u8_bne c 48
@[go_sem] theorem u8_beq_49 (c : UInt8) : ((c.toNat : Int) == 49) = (c == 49) := u8_beq c 49
@[go_sem] theorem u8_bne_49 (c : UInt8) : ((c.toNat : Int) != 49) = (c != 49) := u8_bne c 49
@[go_sem] theorem u8_beq_57 (c : UInt8) : ((c.toNat : Int) == 57) = (c == 57) := u8_beq c 57
@[go_sem] theorem u8_bne_57 (c : UInt8) : ((c.toNat : Int) != 57) = (c != 57) := u8_bne c 57
@[go_sem] theorem u8_beq_65 (c : UInt8) : ((c.toNat : Int) == 65) = (c == 65) := u8_beq c 65
@[go_sem] theorem u8_bne_65 (c : UInt8) : ((c.toNat : Int) != 65) = (c != 65) := u8_bne c 65
@[go_sem] theorem u8_beq_90 (c : UInt8) : ((c.toNat : Int) == 90) = (c == 90) := u8_beq c 90
@[go_sem] theorem u8_bne_90 (c : UInt8) : ((c.toNat : Int) != 90) = (c != 90) := u8_bne c 90
@[go_sem] theorem u8_beq_92 (c : UInt8) : ((c.toNat : Int) == 92) = (c == 92) := u8_beq c 92
@[go_sem] theorem u8_bne_92 (c : UInt8) : ((c.toNat : Int) != 92) = (c != 92) := u8_bne c 92
@[go_sem] theorem u8_beq_97 (c : UInt8) : ((c.toNat : Int) == 97) = (c == 97) := u8_beq c 97
@[go_sem] theorem u8_bne_97 (c : UInt8) : ((c.toNat : Int) != 97) = (c != 97) := u8_bne c 97
@[go_sem] theorem u8_beq_122 (c : UInt8) : ((c.toNat : Int) == 122) = (c == 122) := u8_beq c 122
@[go_sem] theorem u8_bne_122 (c : UInt8) : ((c.toNat : Int) != 122) = (c != 122) := u8_bne c 122
@[go_sem] theorem u8_beq_123 (c : UInt8) : ((c.toNat : Int) == 123) = (c == 123) := u8_beq c 123
@[go_sem] theorem u8_bne_123 (c : UInt8) : ((c.toNat : Int) != 123) = (c != 123) := u8_bne c 123
@[go_sem] theorem u8_beq_125 (c : UInt8) : ((c.toNat : Int) == 125) = (c == 125) := u8_beq c 125
@[go_sem] theorem u8_bne_125 (c : UInt8) : ((c.toNat : Int) != 125) = (c != 125) := u8_bne c 125

theorem ret_eq {a b : Value} (h : a = b) : Ending.returned a = .returned b := by rw [h]
theorem ret_bool {a b : Bool} (h : a = b) : Ending.returned (.bool a) = .returned (.bool b) := by rw [h]
theorem ret_int {k : IntKind} {a b : Int} (h : a = b) : Ending.returned (.int k a) = .returned (.int k b) := by rw [h]
theorem ret_str {a b : List UInt8} (h : a = b) : Ending.returned (.string (S a)) = .returned (.string (S b)) := by rw [h]

/-! ### a list behind a place -/
theorem drop_at {α : Type} {l : List α} {k : Nat} (h : k < l.length) : l.drop k = l[k] :: l.drop (k + 1) := List.drop_eq_getElem_cons h
theorem headD_drop {l : List UInt8} {k : Nat} (h : k < l.length) : (l.drop k).headD 0 = l[k] := by rw [drop_at h]; rfl
theorem headD_drop_ge {l : List UInt8} {k : Nat} (h : l.length ≤ k) : (l.drop k).headD 0 = 0 := by rw [List.drop_eq_nil_of_le h]; rfl

/-! ### slices that are read -/
theorem addr_add (b o j : Nat) : (⟨b, o, none⟩ : Addr).add j = ⟨b, o + j, none⟩ := by
  unfold Addr.add; split
  · rename_i h; subst h; rfl
  · rfl

/-- In w the value v is a slice of n elements of k cells each: these cells. -/
def Rd (w : World) (k : Nat) (v : Value) (n : Nat) (cs : List Value) : Prop :=
  cs.length = n * k ∧ (((v = .slice none 0 0 ∨ ∃ p c, v = .slice (some p) 0 c) ∧ n = 0) ∨ ∃ b o cap, v = .slice (some ⟨b, o, none⟩) n cap ∧ (0 < n → b < w.heap.size) ∧ (∀ j u, cs[j]? = some u → w.cell? ⟨b, o + j, none⟩ = some u) ∧ n ≤ cap)

/-- As many as it may hold, or fewer. -/
theorem Rd.cap {w : World} {k n m c : Nat} {a : Option Addr} {cs : List Value} (h : Rd w k (.slice a n c) m cs) : n ≤ c := by
  rcases h.2 with ⟨h1 | ⟨p, c', h1⟩, h2⟩ | ⟨b, o, cap, h1, _, _, h2⟩
  · cases h1; exact Nat.le_refl _
  · cases h1; omega
  · cases h1; exact h2

/-- The block in which a slice lies is below B. -/
def Under (B : Nat) (v : Value) : Prop := ∀ b, v.ownBlock = some b → b < B

theorem Under.mono {B B' : Nat} {v : Value} (h : Under B v) (hB : B ≤ B') : Under B' v := fun b hb => Nat.lt_of_lt_of_le (h b hb) hB

theorem Rd.shape {w : World} {k n : Nat} {v : Value} {cs : List Value} (h : Rd w k v n cs) : ∃ a c, v = .slice a n c := by
  rcases h.2 with ⟨rfl | ⟨p, c, rfl⟩, rfl⟩ | ⟨b, o, cap, rfl, _⟩
  · exact ⟨_, _, rfl⟩
  · exact ⟨_, _, rfl⟩
  · exact ⟨_, _, rfl⟩

/-- A block whose cells stay as they are. -/
theorem Rd.same {w w' : World} {k n : Nat} {v : Value} {cs : List Value} (h : Rd w k v n cs) (hs : w.heap.size ≤ w'.heap.size) (hb : ∀ b, v.ownBlock = some b → b < w.heap.size → w'.heap[b]? = w.heap[b]?) : Rd w' k v n cs := by
  refine ⟨h.1, ?_⟩
  rcases h.2 with h2 | ⟨b, o, cap, rfl, hlt, hc, hcap⟩
  · exact .inl h2
  · refine .inr ⟨b, o, cap, rfl, fun hn => Nat.lt_of_lt_of_le (hlt hn) hs, fun j u hj => ?_, hcap⟩
    by_cases hn : 0 < n
    · rw [World.cell?_of_block (w := w) (hb b rfl (hlt hn))]
      exact hc j u hj
    · have h0 : cs = [] := List.eq_nil_of_length_eq_zero (by rw [h.1, show n = 0 by omega, Nat.zero_mul])
      simp [h0] at hj

theorem Rd.below {w w' : World} {B k n : Nat} {v : Value} {cs : List Value} (h : Rd w k v n cs) (hu : Under B v) (hb : Below B w w') : Rd w' k v n cs :=
  h.same hb.size fun b hv _ => hb.block b (hu b hv)

/-- What was there when the world was w reads in each later world as it did. -/
theorem Rd.below' {w w' : World} {k n : Nat} {v : Value} {cs : List Value} (h : Rd w k v n cs) (hb : Below w.heap.size w w') : Rd w' k v n cs :=
  h.same hb.size fun b _ hlt => hb.block b hlt

theorem Rd.under {w : World} {k n : Nat} {v : Value} {cs : List Value} (h : Rd w k v n cs) (hk : 0 < n) : Under w.heap.size v := by
  rcases h.2 with ⟨_, h2⟩ | ⟨b, o, cap, rfl, hlt, hc, _⟩
  · omega
  · intro b' hb'
    simp [Value.ownBlock] at hb'
    have := hlt hk
    omega

/-- Behind a write into one block alone, which is not v's. -/
theorem Rd.grown {w w' : World} {row : Option Nat} {k n : Nat} {v : Value} {cs : List Value} (h : Rd w k v n cs) (hg : w.grownBy w' row) (hne : ∀ b, v.ownBlock = some b → some b ≠ row) : Rd w' k v n cs :=
  h.same hg.size fun b hv hlt => hg.block b hlt (hne b hv)

theorem own_rd {w : World} {base e k n : Nat} {v : Value} {cs : List Value} (h : w.ownsRow base e k v n cs) : Rd w k v n cs := by
  refine ⟨h.1, ?_⟩
  rcases h.2 with h2 | ⟨g, cap, cur, rfl, _, hg, hcap, _, _, ht⟩
  · exact .inl ⟨.inl h2.1, h2.2⟩
  · refine .inr ⟨g, 0, cap, rfl, fun _ => (Array.getElem?_eq_some_iff.1 hg).1, fun j u hj => ?_, hcap⟩
    have := h.cells (g := g) rfl j u hj
    rw [addr_add] at this
    exact this

theorem own_under {w : World} {base e k n : Nat} {v : Value} {cs : List Value} (h : w.ownsRow base e k v n cs) : Under w.heap.size v := fun b hb => (h.lt b hb).2

/-- What the call owns stays owned while nothing below B turns, if it lies below B. -/
theorem own_below {w w' : World} {B base e k n : Nat} {v : Value} {cs : List Value} (h : w.ownsRow base e k v n cs) (hu : Under B v) (hb : Below B w w') : w'.ownsRow base e k v n cs := by
  refine ⟨h.1, ?_⟩
  rcases h.2 with h2 | ⟨g, cap, cur, rfl, hg, hh, r⟩
  · exact .inl h2
  · exact .inr ⟨g, cap, cur, rfl, hg, by rw [hb.block g (hu g rfl)]; exact hh, r⟩

theorem own_shape {w : World} {base e k n : Nat} {v : Value} {cs : List Value} (h : w.ownsRow base e k v n cs) : ∃ a cap, v = .slice a n cap := by
  rcases h.2 with ⟨rfl, rfl⟩ | ⟨g, cap, cur, rfl, _⟩
  · exact ⟨_, _, rfl⟩
  · exact ⟨_, _, rfl⟩

theorem own_mono {w : World} {base base' e k n : Nat} {v : Value} {cs : List Value} (h : w.ownsRow base e k v n cs) (hb : base' ≤ base) : w.ownsRow base' e k v n cs := by
  refine ⟨h.1, ?_⟩
  rcases h.2 with h2 | ⟨g, cap, cur, rfl, hg, r⟩
  · exact .inl h2
  · exact .inr ⟨g, cap, cur, rfl, Nat.le_trans hb hg, r⟩

/-! ### lists of tokens in memory: two cells each -/
def tc (t : Int × List UInt8) : List Value := [.int .i64 t.1, .string (S t.2)]
def tcs (l : List (Int × List UInt8)) : List Value := l.flatMap tc
theorem tcs_length (l : List (Int × List UInt8)) : (tcs l).length = l.length * 2 := by
  induction l with
  | nil => rfl
  | cons t l ih => simp only [tcs, List.flatMap_cons, List.length_append, List.length_cons] at ih ⊢; simp only [tc, List.length_cons, List.length_nil]; omega
theorem tcs_append (a b : List (Int × List UInt8)) : tcs (a ++ b) = tcs a ++ tcs b := by simp [tcs]
theorem tcs_snoc (a : List (Int × List UInt8)) (t : Int × List UInt8) : tcs (a ++ [t]) = tcs a ++ [.int .i64 t.1, .string (S t.2)] := by simp [tcs, tc]
theorem tcs_at (l : List (Int × List UInt8)) (i : Nat) (h : i < l.length) : (tcs l)[i * 2]? = some (.int .i64 l[i].1) ∧ (tcs l)[i * 2 + 1]? = some (.string (S l[i].2)) := by
  induction l generalizing i with
  | nil => simp at h
  | cons t l ih =>
    cases i with
    | zero => simp [tcs, tc]
    | succ i =>
      have := ih i (by simpa using h)
      have e : tcs (t :: l) = .int .i64 t.1 :: .string (S t.2) :: tcs l := by simp [tcs, tc]
      rw [e, show (i + 1) * 2 = i * 2 + 1 + 1 by omega]
      simpa using this

/-- v reads as these tokens (of whichever package). -/
def Rt (w : World) (v : Value) (l : List (Int × List UInt8)) : Prop := Rd w 2 v l.length (tcs l)

/-- The cells of a token. -/
theorem Rt.at {w : World} {a : Option Addr} {n c : Nat} {l : List (Int × List UInt8)} (h : Rt w (.slice a n c) l) {i : Nat} (hi : i < l.length) :
    ∃ b o, a = some ⟨b, o, none⟩ ∧ w.cell? ⟨b, o + i * 2, none⟩ = some (.int .i64 l[i].1) ∧ w.cell? ⟨b, o + i * 2 + 1, none⟩ = some (.string (S l[i].2)) := by
  rcases h.2 with ⟨_, h2⟩ | ⟨b, o, cap, hv, hlt, hc, _⟩
  · omega
  · cases hv
    have := tcs_at l i hi
    exact ⟨b, o, rfl, hc _ _ this.1, hc _ _ this.2⟩
theorem Rt.below' {w w' : World} {v : Value} {l : List (Int × List UInt8)} (h : Rt w v l) (hb : Below w.heap.size w w') : Rt w' v l := Rd.below' h hb
theorem rt_made (w : World) (l : List (Int × List UInt8)) (T : TypeId) : Rt (w.alloc (.cells (tcs l).toArray T)) (.slice (some ⟨w.heap.size, 0, none⟩) l.length l.length) l :=
  ⟨tcs_length l, .inr ⟨w.heap.size, 0, l.length, rfl, fun _ => by simp, fun j u hj => by
    rw [Nat.zero_add, cell_of_row _ w.heap.size _ (tcs l).toArray T (0, 0) (heap_alloc_new w _)]
    simpa using hj, Nat.le_refl _⟩⟩
theorem Rt.shape {w : World} {v : Value} {l : List (Int × List UInt8)} (h : Rt w v l) : ∃ a c, v = .slice a l.length c := by
  exact Rd.shape h

/-! ### append onto what the call owns -/
theorem below_drewN {B : Nat} {a w : World} (h : Below B a w) (n : Nat) : Below B a (w.drewN n) := h.trans ⟨rfl, rfl, rfl, Nat.le_refl _, fun _ _ => rfl⟩
theorem own_drewN {w : World} {base e k n : Nat} {v : Value} {cs : List Value} (h : w.ownsRow base e k v n cs) (m : Nat) : (w.drewN m).ownsRow base e k v n cs := h
theorem Rd.drewN {w : World} {k n : Nat} {v : Value} {cs : List Value} (h : Rd w k v n cs) (m : Nat) : Rd (w.drewN m) k v n cs := h

/-- A slice type and its elements: so many cells, so many bytes. -/
structure SlTy (P : Program) (t e : TypeId) (k bytes : Nat) : Prop where
  ht : P.underlying t = some (.slice e)
  hi : ∃ i z, P.info? e = some i ∧ i.zero = some z ∧ i.size = k ∧ i.bytes = bytes ∧ z.cells.size = k
  hk : 0 < k

theorem SlTy.mk' {P : Program} {t e : TypeId} {k bytes : Nat} {z : Value} (ht : P.underlying t = some (.slice e)) (hi : (P.info? e).map (fun i => (i.zero, i.size, i.bytes)) = some (some z, k, bytes)) (hz : z.cells.size = k) (hk : 0 < k) : SlTy P t e k bytes := by
  obtain ⟨i, hi, h0, h1, h2⟩ := info_parts hi
  exact ⟨ht, ⟨i, z, hi, h0, h1, h2, hz⟩, hk⟩

theorem grownBy_trans {a b c : World} {row : Option Nat} (h : a.grownBy b row) (k : b.grownBy c row) : a.grownBy c row :=
  ⟨k.os.trans h.os, k.tape.trans h.tape, k.output.trans h.output, Nat.le_trans h.size k.size, fun i hi hne => (k.block i (Nat.lt_of_lt_of_le hi h.size) hne).trans (h.block i hi hne)⟩

section
variable {P : Program} {ops : Array Oper} {rest : List Oper} {o : Oper} {a : Act} {Q : Exit → Act → World → Prop} {w1 : World}

/-- 'v = append(v, x)': x has been laid into a new block of its own. -/
theorem wp_app {t e k bytes : Nat} {v : Value} {n : Nat} {xs news : List Value} (T : SlTy P t e k bytes) (hgd : o.guard = none) (s x : Operand) (ho : o.op = .call { callee := .builtin .append, args := #[s, x], argTypes := #[t, t] })
    (B : Nat) (hown : w1.ownsRow B e k v n xs) (hs : a.eval s = v) {g : Nat} (hx : a.eval x = .slice (some ⟨g, 0, none⟩) 1 1) (hg : g = w1.heap.size)
    (hn : news.length = k) (h1 : ∀ u ∈ news, u.oneCell' = true) (hlen : (n + 1) * bytes ≤ 140737488355328) (hlen2 : n ≤ 1000000000000000) (hB : B ≤ w1.heap.size)
    (h : ∀ v' w', w'.ownsRow B e k v' (n + 1) (xs ++ news) → Below B w1 w' → w1.grownBy w' v.ownBlock → wpList P ops Q rest (a.put o.dst v') w') :
    wpList P ops Q (o :: rest) a (w1.alloc (.cells news.toArray e)) := by
  subst hg
  obtain ⟨i, z, hi, hz, hsz, hby, hzs⟩ := T.hi
  refine wpList_append_own (w1.alloc (.cells news.toArray e)) hgd s x t ho B e i z k bytes T.ht hi hz hsz hby hzs T.hk v n xs hs (hown.alloc _) ⟨w1.heap.size, 0, none⟩ 1 1 news hx (by omega) ?_ h1 (by unfold maxLen; omega) hlen (by simp; omega) ?_
  · intro j u hj
    rw [addr_add, cell_of_row _ w1.heap.size _ news.toArray e (0, 0) (heap_alloc_new w1 _)]
    simpa using hj
  · intro v' w' hown' hgrow _
    have hg2 : w1.grownBy w' v.ownBlock := grownBy_trans (World.grownBy_alloc w1 _ _) hgrow
    exact h v' w' hown' ((Below.refl B w1).grown hg2 hB (fun j hj => (hown.lt j hj).1)) hg2

/-- 'v = append(v, l...)': l a slice that is read. -/
theorem wp_app_all {t e k bytes : Nat} {v vs : Value} {n m : Nat} {xs news : List Value} (T : SlTy P t e k bytes) (hgd : o.guard = none) (s x : Operand) (ho : o.op = .call { callee := .builtin .append, args := #[s, x], argTypes := #[t, t] })
    (B : Nat) (hown : w1.ownsRow B e k v n xs) (hrd : Rd w1 k vs m news) (hs : a.eval s = v) (hx : a.eval x = vs)
    (h1 : ∀ u ∈ news, u.oneCell' = true) (hlen : (n + m) * bytes ≤ 140737488355328) (hlen2 : n + m ≤ 1000000000000000) (hB : B ≤ w1.heap.size)
    (h : ∀ v' w', w'.ownsRow B e k v' (n + m) (xs ++ news) → Below B w1 w' → w1.grownBy w' v.ownBlock → wpList P ops Q rest (a.put o.dst v') w') :
    wpList P ops Q (o :: rest) a w1 := by
  obtain ⟨i, z, hi, hz, hsz, hby, hzs⟩ := T.hi
  rcases hrd.2 with ⟨rfl | ⟨p, c', rfl⟩, rfl⟩ | ⟨b, off, cap, rfl, hlt, hc, _⟩
  · have h0 : news = [] := List.eq_nil_of_length_eq_zero (by rw [hrd.1]; simp)
    subst h0
    refine wpList_append_own_none hgd s x t ho B e i k T.ht hi v n xs hs hown hx ?_
    have := h v w1 (by simpa using hown) (Below.refl _ _) ⟨rfl, rfl, rfl, Nat.le_refl _, fun _ _ _ => rfl⟩
    exact this
  · have h0 : news = [] := List.eq_nil_of_length_eq_zero (by rw [hrd.1]; simp)
    subst h0
    refine wpList_append_own w1 hgd s x t ho B e i z k bytes T.ht hi hz hsz hby hzs T.hk v n xs hs hown p 0 c' [] hx hrd.1 ?_ h1 (by unfold maxLen; omega) hlen hB ?_
    · intro j u hj; simp at hj
    · intro v' w' hown' hgrow _
      exact h v' w' hown' ((Below.refl B w1).grown hgrow hB (fun j hj => (hown.lt j hj).1)) hgrow
  · refine wpList_append_own w1 hgd s x t ho B e i z k bytes T.ht hi hz hsz hby hzs T.hk v n xs hs hown ⟨b, off, none⟩ m cap news hx hrd.1 ?_ h1 (by unfold maxLen; omega) hlen hB ?_
    · intro j u hj
      rw [addr_add]
      exact hc j u hj
    · intro v' w' hown' hgrow _
      exact h v' w' hown' ((Below.refl B w1).grown hgrow hB (fun j hj => (hown.lt j hj).1)) hgrow
end

/-! ### a row of cells in a block of its own -/
theorem row_lt {W : World} {g : Nat} {o : Obj} (h : W.heap[g]? = some o) : g < W.heap.size := (Array.getElem?_eq_some_iff.1 h).1
theorem row_free {W : World} {g : Nat} {r : Array Value} {T : TypeId} (h : W.heap[g]? = some (.cells r T (0, 0))) (j : Nat) : W.frozen? ⟨g, j, none⟩ = false := by simp [World.frozen?, h]
theorem row_cell {W : World} {g : Nat} {r : Array Value} {T : TypeId} {f : Nat × Nat} (h : W.heap[g]? = some (.cells r T f)) (j : Nat) : W.cell? ⟨g, j, none⟩ = r[j]? := cell_of_row W g j r T f h
theorem row_set {W : World} {g : Nat} {r : Array Value} {T : TypeId} {f : Nat × Nat} (h : W.heap[g]? = some (.cells r T f)) (j : Nat) (v : Value) : (W.setCell ⟨g, j, none⟩ v).heap[g]? = some (.cells (r.set! j v) T f) := by simp [World.setCell, Array.getElem?_modify, h]

/-! ### a struct of two cells in a block of its own -/
theorem pair_cell0 {W : World} {g : Nat} {a b : Value} {T : TypeId} {f : Nat × Nat} (h : W.heap[g]? = some (.cells #[a, b] T f)) : W.cell? ⟨g, 0, none⟩ = some a := by simp [World.cell?, h]
theorem pair_cell1 {W : World} {g : Nat} {a b : Value} {T : TypeId} {f : Nat × Nat} (h : W.heap[g]? = some (.cells #[a, b] T f)) : W.cell? ⟨g, 1, none⟩ = some b := by simp [World.cell?, h]
theorem pair_free {W : World} {g : Nat} {a b : Value} {T : TypeId} (h : W.heap[g]? = some (.cells #[a, b] T (0, 0))) (j : Nat) : W.frozen? ⟨g, j, none⟩ = false := by simp [World.frozen?, h]
theorem pair_lt {W : World} {g : Nat} {o : Obj} (h : W.heap[g]? = some o) : g < W.heap.size := (Array.getElem?_eq_some_iff.1 h).1
theorem pair_set {W : World} {g : Nat} {a b : Value} {T : TypeId} {f : Nat × Nat} (h : W.heap[g]? = some (.cells #[a, b] T f)) (c d : Value) :
    ((W.setCell ⟨g, 0, none⟩ c).setCell ⟨g, 1, none⟩ d).heap[g]? = some (.cells #[c, d] T f) := by simp [World.setCell, Array.getElem?_modify, h]
theorem pair_set1 {W : World} {g : Nat} {a b : Value} {T : TypeId} {f : Nat × Nat} (h : W.heap[g]? = some (.cells #[a, b] T f)) (d : Value) :
    (W.setCell ⟨g, 1, none⟩ d).heap[g]? = some (.cells #[a, d] T f) := by simp [World.setCell, Array.getElem?_modify, h]
theorem below_pair {w W : World} {o : Obj} (h : Below (w.alloc o).heap.size (w.alloc o) W) : W.heap[w.heap.size]? = some o ∧ Below w.heap.size w W :=
  ⟨(h.block _ (by simp)).trans (heap_alloc_new _ _), ((Below.refl _ _).alloc (Nat.le_refl _) _).trans (h.mono (by simp))⟩
theorem alloc2_first (w : World) (a b : Obj) : ((w.alloc a).alloc b).heap[w.heap.size]? = some a := (Below.heap_alloc (w.alloc a) b w.heap.size (by simp)).trans (heap_alloc_new w a)
theorem alloc2_second (w : World) (a b : Obj) : ((w.alloc a).alloc b).heap[w.heap.size + 1]? = some b := by
  have := heap_alloc_new (w.alloc a) b
  simpa using this
theorem below_setCell2 {B g : Nat} {a w : World} (h : Below B a w) (hg : B ≤ g) (i k : Nat) (c d : Value) : Below B a ((w.setCell ⟨g, i, none⟩ c).setCell ⟨g, k, none⟩ d) :=
  (h.setCell (p := ⟨g, i, none⟩) hg c).setCell (p := ⟨g, k, none⟩) hg d

theorem tcs_one {l : List (Int × List UInt8)} : ∀ u ∈ tcs l, u.oneCell' = true := by
  intro u hu
  simp only [tcs, List.mem_flatMap, tc, List.mem_cons, List.not_mem_nil, or_false] at hu
  obtain ⟨t, _, rfl | rfl⟩ := hu <;> rfl
theorem tc_one {a : Int} {s : ByteArray} : ∀ u ∈ [Value.int .i64 a, .string s], u.oneCell' = true := by
  intro u hu; simp at hu; rcases hu with rfl | rfl <;> rfl
theorem byte_one {a : Int} : ∀ u ∈ [Value.int .u8 a], u.oneCell' = true := by
  intro u hu; simp at hu; rcases hu with rfl; rfl

/-- 'l[:min(len(l), n)]'. -/
theorem take_min {α : Type} (l : List α) (n : Nat) : l.take (if (n : Int) < (l.length : Int) then (n : Int) else (l.length : Int)).toNat = l.take n := by
  split
  · simp
  · rw [List.take_of_length_le (by simp), List.take_of_length_le (by omega)]
/-- 's[k:k+1]'. -/
@[go_sem] theorem drop_take_one {l : List UInt8} {k : Nat} (h : k < l.length) : (l.take (k + 1)).drop k = [l[k]] := by
  rw [List.take_succ_eq_append_getElem h, List.drop_append_of_le_length (by simp; omega)]
  simp
theorem take_drop_self {α : Type} (l : List α) (i : Nat) : (l.take i).drop i = [] := List.drop_eq_nil_of_le (by simp; omega)
theorem take_drop_snoc {α : Type} {l : List α} {i m : Nat} (h : m < l.length) (hi : i ≤ m) : (l.take (m + 1)).drop i = (l.take m).drop i ++ [l[m]] := by
  rw [List.take_succ_eq_append_getElem h, List.drop_append_of_le_length (by simp; omega)]
theorem take_snoc {α : Type} (l : List α) (k : Nat) (h : k < l.length) : l.take (k + 1) = l.take k ++ [l[k]] := List.take_succ_eq_append_getElem h

theorem take_succ_eq {α : Type} {a b : List α} {k : Nat} (h1 : k < a.length) (h2 : k < b.length) (h : a.take k = b.take k) (he : a[k] = b[k]) : a.take (k + 1) = b.take (k + 1) := by
  rw [List.take_succ_eq_append_getElem h1, List.take_succ_eq_append_getElem h2, h, he]

end Go.Proofs.Ytemdhbeegheefaa
