
/- Maps of files in memory; the same files, the same texts. No condition. -/
import Derived.Test.YtgpifaedcelnnaaFiPure
import Derived.Test.YtgpifaedcelnnaaInsF
import Derived.Test.YtgpifaedcelnnaaShelf
import Derived.BigQuiet
namespace Go.Proofs.Ytgpifaedcelnnaa
open Go.RowKit

abbrev Fl := Fi.F
def fc (f : Fl) : List Value := [.string (S f.1), .string (S f.2)]
def fcs (l : List Fl) : List Value := l.flatMap fc
theorem fcs_cons (f : Fl) (l : List Fl) : fcs (f :: l) = .string (S f.1) :: .string (S f.2) :: fcs l := by simp [fcs, fc]
theorem fcs_append (a b : List Fl) : fcs (a ++ b) = fcs a ++ fcs b := by simp [fcs]
theorem fcs_snoc (a : List Fl) (f : Fl) : fcs (a ++ [f]) = fcs a ++ [.string (S f.1), .string (S f.2)] := by simp [fcs, fc]
theorem fcs_length (l : List Fl) : (fcs l).length = l.length * 2 := by
  induction l with
  | nil => rfl
  | cons f l ih => rw [fcs_cons]; simp only [List.length_cons, ih]; omega
theorem fcs_at (l : List Fl) (i : Nat) (h : i < l.length) : (fcs l)[i * 2]? = some (.string (S l[i].1)) ∧ (fcs l)[i * 2 + 1]? = some (.string (S l[i].2)) := by
  induction l generalizing i with
  | nil => simp at h
  | cons t l ih =>
    cases i with
    | zero => simp [fcs_cons]
    | succ i =>
      have := ih i (by simpa using h)
      rw [fcs_cons, show (i + 1) * 2 = i * 2 + 1 + 1 by omega]
      simpa using this
theorem fcs_one {l : List Fl} : ∀ u ∈ fcs l, u.oneCell' = true := by
  intro u hu
  simp only [fcs, List.mem_flatMap, fc, List.mem_cons, List.not_mem_nil, or_false] at hu
  obtain ⟨t, _, rfl | rfl⟩ := hu <;> rfl
theorem fc_one {a b : ByteArray} : ∀ u ∈ [Value.string a, .string b], u.oneCell' = true := by
  intro u hu; simp at hu; rcases hu with rfl | rfl <;> rfl
theorem fcs_take (l : List Fl) (i : Nat) : (fcs l).take (i * 2) = fcs (l.take i) ∧ (fcs l).drop (i * 2) = fcs (l.drop i) := by
  induction l generalizing i with
  | nil => simp [fcs]
  | cons f l ih =>
    cases i with
    | zero => simp [fcs]
    | succ i =>
      rw [fcs_cons, show (i + 1) * 2 = i * 2 + 1 + 1 by omega]
      simp only [List.take_succ_cons, List.drop_succ_cons, fcs_cons, (ih i).1, (ih i).2, and_self]
theorem fcs_set (l : List Fl) (i : Nat) (h : i < l.length) (f : Fl) : ((fcs l).set (i * 2) (.string (S f.1))).set (i * 2 + 1) (.string (S f.2)) = fcs (l.set i f) := by
  induction l generalizing i with
  | nil => simp at h
  | cons t l ih =>
    cases i with
    | zero => simp [fcs_cons]
    | succ i =>
      have := ih i (by simpa using h)
      rw [fcs_cons, show (i + 1) * 2 = i * 2 + 1 + 1 by omega]
      simp only [List.set_cons_succ, fcs_cons, this]

/-- v reads as these files. -/
def Rf (w : World) (v : Value) (l : List Fl) : Prop := Rd w 2 v l.length (fcs l)
theorem Rf.at {w : World} {a : Option Addr} {n c : Nat} {l : List Fl} (h : Rf w (.slice a n c) l) {i : Nat} (hi : i < l.length) :
    ∃ b o, a = some ⟨b, o, none⟩ ∧ w.cell? ⟨b, o + i * 2, none⟩ = some (.string (S l[i].1)) ∧ w.cell? ⟨b, o + i * 2 + 1, none⟩ = some (.string (S l[i].2)) := by
  rcases h.2 with ⟨_, h2⟩ | ⟨b, o, cap, hv, hlt, hc, _⟩
  · omega
  · cases hv
    have := fcs_at l i hi
    exact ⟨b, o, rfl, hc _ _ this.1, hc _ _ this.2⟩
theorem Rf.below' {w w' : World} {v : Value} {l : List Fl} (h : Rf w v l) (hb : Below w.heap.size w w') : Rf w' v l := Rd.below' h hb
theorem Rf.shape {w : World} {v : Value} {l : List Fl} (h : Rf w v l) : ∃ a c, v = .slice a l.length c := Rd.shape h
theorem Rf.nil (w : World) : Rf w (.slice none 0 0) [] := ⟨rfl, .inl ⟨.inl rfl, rfl⟩⟩
theorem rf_own {w : World} {B e : Nat} {v : Value} {l : List Fl} (h : w.ownsRow B e 2 v l.length (fcs l)) : Rf w v l := own_rd h
theorem rf_made (w : World) (l : List Fl) (T : TypeId) : Rf (w.alloc (.cells (fcs l).toArray T)) (.slice (some ⟨w.heap.size, 0, none⟩) l.length l.length) l :=
  ⟨fcs_length l, .inr ⟨w.heap.size, 0, l.length, rfl, fun _ => by simp, fun j u hj => by
    rw [Nat.zero_add, cell_of_row _ w.heap.size _ (fcs l).toArray T (0, 0) (heap_alloc_new w _)]
    simpa using hj, Nat.le_refl _⟩⟩

/-! ### lists of texts -/
def xcs (l : List (List UInt8)) : List Value := l.map fun s => .string (S s)
def Rx (w : World) (v : Value) (l : List (List UInt8)) : Prop := Rd w 1 v l.length (xcs l)
theorem Rx.at {w : World} {a : Option Addr} {n c : Nat} {l : List (List UInt8)} (h : Rx w (.slice a n c) l) {i : Nat} (hi : i < l.length) :
    ∃ b o, a = some ⟨b, o, none⟩ ∧ w.cell? ⟨b, o + i, none⟩ = some (.string (S l[i])) := by
  rcases h.2 with ⟨_, h2⟩ | ⟨b, o, cap, hv, hlt, hc, _⟩
  · omega
  · cases hv
    exact ⟨b, o, rfl, hc _ _ (by simp [xcs, hi])⟩
theorem Rx.below' {w w' : World} {v : Value} {l : List (List UInt8)} (h : Rx w v l) (hb : Below w.heap.size w w') : Rx w' v l := Rd.below' h hb
theorem Rx.shape {w : World} {v : Value} {l : List (List UInt8)} (h : Rx w v l) : ∃ a c, v = .slice a l.length c := Rd.shape h
theorem xcs_one {l : List (List UInt8)} : ∀ u ∈ xcs l, u.oneCell' = true := by
  intro u hu
  obtain ⟨s, _, rfl⟩ := List.mem_map.1 hu
  rfl
theorem xcs_snoc (a : List (List UInt8)) (s : List UInt8) : xcs (a ++ [s]) = xcs a ++ [.string (S s)] := by simp [xcs]

theorem run_neq_file (p q : Fl) (w : World) : (binOp .neq 25 (.agg #[.string (S p.1), .string (S p.2)]) (.agg #[.string (S q.1), .string (S q.2)])).run Try.prog w = .ok (.bool (p != q)) w := by
  obtain ⟨a, s⟩ := p
  obtain ⟨b, t⟩ := q
  by_cases h : a = b <;> by_cases h2 : s = t <;> simp [go_sem, h, h2, bne]
theorem run_eql_file (p q : Fl) (w : World) : (binOp .eql 25 (.agg #[.string (S p.1), .string (S p.2)]) (.agg #[.string (S q.1), .string (S q.2)])).run Try.prog w = .ok (.bool (p == q)) w := by
  obtain ⟨a, s⟩ := p
  obtain ⟨b, t⟩ := q
  by_cases h : a = b <;> by_cases h2 : s = t <;> simp [go_sem, h, h2]
theorem eq_of_bne {α : Type} [BEq α] [LawfulBEq α] {a b : α} (h : (a != b) = false) : a = b := by simpa [bne] using h
theorem ne_of_bne {α : Type} [BEq α] [LawfulBEq α] {a b : α} (h : (a != b) = true) : a ≠ b := by simpa [bne] using h

set_option maxHeartbeats 400000 in
/-- 'equal': are they the same files? -/
theorem equal_any (va vb : Value) (la lb : List Fl) (w : World) (ha : Rf w va la) (hb : Rf w vb lb) (hla : la.length ≤ 1000000000000) (hlb : lb.length ≤ 1000000000000) :
    Calls Try.prog 18 #[va, vb] w fun e w' => e = .returned (.bool (la == lb)) ∧ Below w.heap.size w w' := by
  have hne := run_neq_file
  obtain ⟨aa, ca, rfl⟩ := ha.shape
  obtain ⟨ab, cb, rfl⟩ := hb.shape
  by_cases hlen : la.length = lb.length
  · have HL := Lib.hid hlen
    have hb1 : ((la.length : Int) != (lb.length : Int)) = false := by simp [hlen]
    clear hlen
    go_enter Try.func18, Try.ntmps18
    go_wp2
    go_loopw [4, 5] (fun _ i wr => ∃ k : Nat, k ≤ la.length ∧ i = .int .i64 k ∧ Hid (la.take k = lb.take k) ∧ Below w.heap.size w wr) (fun _ i _ => la.length - (intOf i).toNat)
    case atStart => exact ⟨0, Nat.zero_le _, rfl, rfl, Below.refl _ _⟩
    case round =>
      obtain ⟨k, hk, rfl, HE, hbw⟩ := hrel
      by_cases hlt : k < la.length
      · have hlt' : k < lb.length := HL.out ▸ hlt
        have ha' := ha.below' hbw
        have hb' := hb.below' hbw
        obtain ⟨b1, o1, rfl, c10, c11⟩ := ha'.at hlt
        obtain ⟨b2, o2, rfl, c20, c21⟩ := hb'.at hlt'
        clear ha' hb' ha hb
        go_wp2
        go_quiet (fail)
        go_wp2
        · have hx : (la[k] != lb[k]) = true := by assumption
          go_ret
          refine ⟨ret_bool ?_, below_drewN hbw _⟩
          have : la ≠ lb := fun e => ne_of_bne hx (by subst e; rfl)
          simp [this]
        · have hx : (la[k] != lb[k]) = false := by assumption
          go_roundw
          case rel => exact ⟨k + 1, by omega, by go_num, take_succ_eq hlt hlt' HE.out (eq_of_bne hx), below_drewN hbw _⟩
          case measure => simp [intOf]; omega
      · have hkl : k = la.length := by omega
        have heq : la = lb := by
          have := HE.out
          rw [hkl, List.take_length, HL.out, List.take_length] at this
          exact this
        have HQ := Lib.hid heq
        clear heq hkl ha hb
        go_wp2
        go_ret
        exact ⟨ret_bool (by simp [HQ.out]), hbw⟩
  · have hb1 : ((la.length : Int) != (lb.length : Int)) = true := by simp [bne]; omega
    go_enter Try.func18, Try.ntmps18
    go_wp2
    go_ret
    refine ⟨ret_bool ?_, Below.refl _ _⟩
    have : la ≠ lb := fun e => hlen (by rw [e])
    simp [this]

set_option maxHeartbeats 400000 in
/-- 'Words': are they the same texts? -/
theorem words_any (va vb : Value) (la lb : List (List UInt8)) (w : World) (ha : Rx w va la) (hb : Rx w vb lb) (hla : la.length ≤ 1000000000000) (hlb : lb.length ≤ 1000000000000) :
    Calls Try.prog 25 #[va, vb] w fun e w' => e = .returned (.bool (la == lb)) ∧ Below w.heap.size w w' := by
  obtain ⟨aa, ca, rfl⟩ := ha.shape
  obtain ⟨ab, cb, rfl⟩ := hb.shape
  by_cases hlen : la.length = lb.length
  · have HL := Lib.hid hlen
    have hb1 : ((la.length : Int) != (lb.length : Int)) = false := by simp [hlen]
    clear hlen
    go_enter Try.func25, Try.ntmps25
    go_wp2
    go_loopw [4, 5] (fun _ i wr => ∃ k : Nat, k ≤ la.length ∧ i = .int .i64 k ∧ Hid (la.take k = lb.take k) ∧ Below w.heap.size w wr) (fun _ i _ => la.length - (intOf i).toNat)
    case atStart => exact ⟨0, Nat.zero_le _, rfl, rfl, Below.refl _ _⟩
    case round =>
      obtain ⟨k, hk, rfl, HE, hbw⟩ := hrel
      by_cases hlt : k < la.length
      · have hlt' : k < lb.length := HL.out ▸ hlt
        have ha' := ha.below' hbw
        have hb' := hb.below' hbw
        obtain ⟨b1, o1, rfl, c10⟩ := ha'.at hlt
        obtain ⟨b2, o2, rfl, c20⟩ := hb'.at hlt'
        clear ha' hb' ha hb
        go_wp2
        go_quiet (fail)
        go_wp2
        · have hx : (la[k] != lb[k]) = true := by assumption
          go_ret
          refine ⟨ret_bool ?_, below_drewN hbw _⟩
          have : la ≠ lb := fun e => ne_of_bne hx (by subst e; rfl)
          simp [this]
        · have hx : (la[k] != lb[k]) = false := by assumption
          go_roundw
          case rel => exact ⟨k + 1, by omega, by go_num, take_succ_eq hlt hlt' HE.out (eq_of_bne hx), below_drewN hbw _⟩
          case measure => simp [intOf]; omega
      · have hkl : k = la.length := by omega
        have heq : la = lb := by
          have := HE.out
          rw [hkl, List.take_length, HL.out, List.take_length] at this
          exact this
        have HQ := Lib.hid heq
        clear heq hkl ha hb
        go_wp2
        go_ret
        exact ⟨ret_bool (by simp [HQ.out]), hbw⟩
  · have hb1 : ((la.length : Int) != (lb.length : Int)) = true := by simp [bne]; omega
    go_enter Try.func25, Try.ntmps25
    go_wp2
    go_ret
    refine ⟨ret_bool ?_, Below.refl _ _⟩
    have : la ≠ lb := fun e => hlen (by rw [e])
    simp [this]

end Go.Proofs.Ytgpifaedcelnnaa
