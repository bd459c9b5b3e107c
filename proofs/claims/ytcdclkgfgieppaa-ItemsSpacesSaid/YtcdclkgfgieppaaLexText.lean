
/- 'safe' and 'Text', of the lexer and of its reference, walked. -/
import Derived.Test.YtcdclkgfgieppaaLexOne
namespace Go.Proofs.Ytcdclkgfgieppaa
open Go.RowKit

/-- Which kind a token is of. -/
theorem seven (k : Int) : (k == 1) = true ∨ ((k == 1) = false ∧ (k == 2) = true) ∨ ((k == 1) = false ∧ (k == 2) = false ∧ (k == 3) = true) ∨ ((k == 1) = false ∧ (k == 2) = false ∧ (k == 3) = false ∧ (k == 4) = true) ∨
    ((k == 1) = false ∧ (k == 2) = false ∧ (k == 3) = false ∧ (k == 4) = false ∧ (k == 5) = true) ∨ ((k == 1) = false ∧ (k == 2) = false ∧ (k == 3) = false ∧ (k == 4) = false ∧ (k == 5) = false ∧ (k == 6) = true) ∨
    ((k == 1) = false ∧ (k == 2) = false ∧ (k == 3) = false ∧ (k == 4) = false ∧ (k == 5) = false ∧ (k == 6) = false ∧ (k == 7) = true) ∨
    ((k == 1) = false ∧ (k == 2) = false ∧ (k == 3) = false ∧ (k == 4) = false ∧ (k == 5) = false ∧ (k == 6) = false ∧ (k == 7) = false) := by
  cases h1 : (k == 1) <;> cases h2 : (k == 2) <;> cases h3 : (k == 3) <;> cases h4 : (k == 4) <;> cases h5 : (k == 5) <;> cases h6 : (k == 6) <;> cases h7 : (k == 7) <;> simp

theorem special_any (c : UInt8) : ([92, 123, 125, 37, 35] : List UInt8).any (fun d => d == c) = (c == 92 || c == 123 || c == 125 || c == 37 || c == 35) := by
  have e : ∀ d : UInt8, (d == c) = (c == d) := fun d => by rw [Bool.eq_iff_iff, beq_iff_eq, beq_iff_eq]; exact eq_comm
  simp only [List.any_cons, List.any_nil, Bool.or_false, Bool.or_assoc, e 92, e 123, e 125, e 37, e 35]
theorem special_index (c : UInt8) : decide (0 ≤ Lib.indexByte [92, 123, 125, 37, 35] c) = (c == 92 || c == 123 || c == 125 || c == 37 || c == 35) := by
  rw [Bool.eq_iff_iff]
  by_cases h1 : c = 92
  · subst h1; decide
  by_cases h2 : c = 123
  · subst h2; decide
  by_cases h3 : c = 125
  · subst h3; decide
  by_cases h4 : c = 37
  · subst h4; decide
  by_cases h5 : c = 35
  · subst h5; decide
  have e : ∀ d : UInt8, c ≠ d → (d == c) = false := fun d h => by simpa using fun e => h e.symm
  simp [Lib.indexByte, e _ h1, e _ h2, e _ h3, e _ h4, e _ h5, h1, h2, h3, h4, h5]

theorem safe_snoc (a : List UInt8) (c : UInt8) : Lx.safe (a ++ [c]) = Lx.safe a ++ (if Lx.special c then [92, c] else [c]) := by simp [Lx.safe]
theorem safe_len (a : List UInt8) : (Lx.safe a).length ≤ 2 * a.length := by
  induction a with
  | nil => simp [Lx.safe]
  | cons c r ih =>
    have e : Lx.safe (c :: r) = (if Lx.special c then [92, c] else [c]) ++ Lx.safe r := rfl
    rw [e, List.length_append, List.length_cons]
    split <;> simp only [List.length_cons, List.length_nil] <;> omega

set_option maxHeartbeats 800000 in
/-- 'safe'. -/
theorem safe_any (l : List UInt8) (hl : l.length ≤ 1000000000) (w : World) :
    Calls Try.prog 52 #[.string (S l)] w fun e w' => e = .returned (.string (S (Lx.safe l))) ∧ Below w.heap.size w w' := by
  go_enter Try.func52, Try.ntmps52
  go_wp2_with fail
  simp only [S_lit]
  go_loopw [3, 7] (fun v i wr => ∃ j : Nat, j ≤ l.length ∧ i = .int .i64 j ∧ wr.ownsRow w.heap.size 5 1 v (Lx.safe (l.take j)).length (Lib.byteCells (Lx.safe (l.take j))) ∧ Below w.heap.size w wr) (fun _ i _ => l.length - (intOf i).toNat)
  case atStart => exact ⟨0, by omega, rfl, World.ownsRow_nil _ _ _ _, Below.refl _ _⟩
  case round =>
    obtain ⟨j, hj, rfl, hown, hbw⟩ := hrel
    have hsl := safe_len (l.take j)
    have htl : (l.take j).length ≤ j := List.length_take_le _ _
    have hsz := hbw.size
    by_cases hlt : j < l.length
    · have HT := Lib.hid (take_snoc l j hlt)
      have HS : Hid (Lx.special l[j] = (Lx.blank l[j] || decide (0 ≤ Lib.indexByte [92, 123, 125, 37, 35] l[j]))) := by
        show _ = _; rw [special_index, Lx.special]; simp [Bool.or_assoc]
      have e8 : (Int.toNat (l[j].toNat : Int)).toUInt8 = l[j] := by simp
      have one2 : ∀ (v2 : Value) (w2 : World), w2.ownsRow w.heap.size 5 1 v2 ((Lx.safe (l.take j)).length + 1) (Lib.byteCells (Lx.safe (l.take j)) ++ [.int .u8 l[j].toNat]) → Lx.special l[j] = false →
          Hid (w2.ownsRow w.heap.size 5 1 v2 (Lx.safe (l.take (j + 1))).length (Lib.byteCells (Lx.safe (l.take (j + 1))))) := fun v2 w2 h hs => by
        show World.ownsRow _ _ _ _ _ _ _
        rw [HT.out, safe_snoc, hs]; simpa [Lib.byteCells] using h
      have two2 : ∀ (v2 : Value) (w2 : World), w2.ownsRow w.heap.size 5 1 v2 ((Lx.safe (l.take j)).length + 1 + 1) (Lib.byteCells (Lx.safe (l.take j)) ++ [.int .u8 92] ++ [.int .u8 l[j].toNat]) → Lx.special l[j] = true →
          Hid (w2.ownsRow w.heap.size 5 1 v2 (Lx.safe (l.take (j + 1))).length (Lib.byteCells (Lx.safe (l.take (j + 1))))) := fun v2 w2 h hs => by
        show World.ownsRow _ _ _ _ _ _ _
        rw [HT.out, safe_snoc, hs]; simpa [Lib.byteCells] using h
      have ONE := Lib.hid one2
      have TWO := Lib.hid two2
      clear one2 two2
      have E8 := Lib.hid e8
      clear e8
      cases hb : Lx.blank l[j]
      · by_cases hi : 0 ≤ Lib.indexByte [92, 123, 125, 37, 35] l[j]
        · have HP : Hid (Lx.special l[j] = true) := by show _ = _; rw [HS.out, hb]; simpa using hi
          (go_wp2_with (first | (go_at_call 55; (with_reducible refine (blank_any _ _).mono ?_); rintro e w' ⟨rfl, rfl⟩) | (go_at_call 67; (with_reducible refine (indexByte_any _ _ _).mono ?_); rintro e w' ⟨rfl, rfl⟩; rw [E8.out]) | (at_builtin; refine wp_app tyByte rfl (.tmp 21) (.tmp 22) rfl w.heap.size hown rfl rfl (by simp) rfl byte_one (by omega) (by omega) (by omega) ?_; intro v2 w2 hown2 hb2 _; have hsz2 := hb2.size) | (at_builtin; refine wp_app tyByte rfl (.tmp 24) (.tmp 28) rfl w.heap.size hown2 rfl rfl (by simp) rfl byte_one (by omega) (by omega) (by omega) ?_; intro v3 w3 hown3 hb3 _)); go_roundw; (case rel => exact ⟨j + 1, by omega, by go_num, (TWO.out _ _ hown3 HP.out).out, (hbw.trans hb2).trans hb3⟩); (case measure => (simp [intOf]; omega)))
        · have HP : Hid (Lx.special l[j] = false) := by show _ = _; rw [HS.out, hb]; simpa using hi
          have hi' : Lib.indexByte [92, 123, 125, 37, 35] l[j] < 0 := by omega
          clear hi
          go_wp2_with (first | (go_at_call 55; (with_reducible refine (blank_any _ _).mono ?_); rintro e w' ⟨rfl, rfl⟩) | (go_at_call 67; (with_reducible refine (indexByte_any _ _ _).mono ?_); rintro e w' ⟨rfl, rfl⟩; rw [E8.out]) | (at_builtin; refine wp_app tyByte rfl (.tmp 24) (.tmp 28) rfl w.heap.size hown rfl rfl (by simp) rfl byte_one (by omega) (by omega) (by omega) ?_; intro v2 w2 hown2 hb2 _))
          go_roundw
          case rel => exact ⟨j + 1, by omega, by go_num, (ONE.out _ _ hown2 HP.out).out, hbw.trans hb2⟩
          case measure => simp [intOf]; omega
      · have HP : Hid (Lx.special l[j] = true) := by show _ = _; rw [HS.out, hb]; rfl
        (go_wp2_with (first | (go_at_call 55; (with_reducible refine (blank_any _ _).mono ?_); rintro e w' ⟨rfl, rfl⟩) | (go_at_call 67; (with_reducible refine (indexByte_any _ _ _).mono ?_); rintro e w' ⟨rfl, rfl⟩; rw [E8.out]) | (at_builtin; refine wp_app tyByte rfl (.tmp 21) (.tmp 22) rfl w.heap.size hown rfl rfl (by simp) rfl byte_one (by omega) (by omega) (by omega) ?_; intro v2 w2 hown2 hb2 _; have hsz2 := hb2.size) | (at_builtin; refine wp_app tyByte rfl (.tmp 24) (.tmp 28) rfl w.heap.size hown2 rfl rfl (by simp) rfl byte_one (by omega) (by omega) (by omega) ?_; intro v3 w3 hown3 hb3 _)); go_roundw; (case rel => exact ⟨j + 1, by omega, by go_num, (TWO.out _ _ hown3 HP.out).out, (hbw.trans hb2).trans hb3⟩); (case measure => (simp [intOf]; omega)))
    · obtain rfl : j = l.length := by omega
      rw [List.take_length] at *
      have hcv := conv_bytes (own_rd hown)
      go_wp2_with fail
      go_ret
      exact ⟨rfl, hbw⟩

theorem text_snoc (a : List Lx.Tok) (t : Lx.Tok) : Lx.text (a ++ [t]) = Lx.text a ++ Lx.textOf t := by simp [Lx.text]
theorem textOf_len (t : Lx.Tok) (M : Nat) (h : t.2.length ≤ M) : (Lx.textOf t).length ≤ 2 * M + 2 := by
  have := safe_len t.2
  unfold Lx.textOf
  (repeat' split) <;> first | omega | (simp only [List.length_cons, List.length_nil]; omega)
theorem text_len (l : List Lx.Tok) (M : Nat) (h : ∀ t ∈ l, t.2.length ≤ M) : (Lx.text l).length ≤ l.length * (2 * M + 2) := by
  induction l with
  | nil => simp [Lx.text]
  | cons t r ih =>
    have e : Lx.text (t :: r) = Lx.textOf t ++ Lx.text r := rfl
    have h1 := textOf_len t M (h t (List.mem_cons_self ..))
    have h2 := ih fun x hx => h x (List.mem_cons_of_mem _ hx)
    rw [e, List.length_append, List.length_cons, Nat.add_mul]
    omega

/-- A builder of the call's own stays as it is while nothing that is there turns. -/
theorem builder_below {w w' : World} {T e B b : Nat} {bs : List Value} (h : Lib.IsBuilder T e B b bs w) (hb : Below w.heap.size w w') : Lib.IsBuilder T e B b bs w' := by
  have key : ∀ p, Lib.BuilderAt T e B b p bs w → Lib.BuilderAt T e B b p bs w' := by
    rintro p ⟨hB, v, hbk, hown, hne⟩
    exact ⟨hB, v, by rw [hb.block b (pair_lt hbk)]; exact hbk, own_below hown (own_under hown) hb, hne⟩
  rcases h with h | h
  · exact .inl (key _ h)
  · exact .inr (key _ h)

set_option maxHeartbeats 3200000 in
/-- 'Text'. -/
theorem text_any (v : Value) (l : List Lx.Tok) (w : World) (hl : Rt w v l) (hlen : l.length ≤ 100000) (hs : ∀ t ∈ l, t.2.length ≤ 100000) :
    Calls Try.prog 38 #[v] w fun e w' => e = .returned (.string (S (Lx.text l))) ∧ Below w.heap.size w w' := by
  obtain ⟨a0, c0, rfl⟩ := hl.shape
  go_enter Try.func38, Try.ntmps38
  go_wp2_with fail
  simp only [S_lit]
  go_loopw [8] (fun i wr => ∃ j : Nat, j ≤ l.length ∧ i = .int .i64 j ∧ Lib.IsBuilder 99 5 w.heap.size w.heap.size (Lib.byteCells (Lx.text (l.take j))) wr ∧ Below w.heap.size w wr) (fun i _ => l.length - (intOf i).toNat)
  case atStart => exact ⟨0, by omega, rfl, .inl ⟨Nat.le_refl _, _, heap_alloc_new _ _, World.ownsRow_nil _ _ _ _, by simp [Value.ownBlock]⟩, (Below.refl _ _).alloc (Nat.le_refl _) _⟩
  case round =>
    obtain ⟨j, hj, rfl, hB, hbw⟩ := hrel
    have hsz := hbw.size
    by_cases hlt : j < l.length
    · have htl : (Lx.text (l.take j)).length ≤ 100000 * 200002 := by
        have := text_len (l.take j) 100000 fun t ht => hs t (List.mem_of_mem_take ht)
        have h2 : (l.take j).length ≤ 100000 := by simp; omega
        exact Nat.le_trans this (Nat.mul_le_mul_right _ h2)
      have hs1 := hs _ (List.getElem_mem hlt)
      have hsl := safe_len l[j].2
      obtain ⟨b1, o1, rfl, c10, c11⟩ := (hl.below' hbw).at hlt
      have HT := Lib.hid (take_snoc l j hlt)
      have hbl := Lib.byteCells_length (Lx.text (l.take j))
      have HBL := Lib.hid hbl
      have hal := (Below.refl wr.heap.size wr).alloc (Nat.le_refl _) (.cells #[.int .i64 l[j].1, .string (S l[j].2)] 48)
      have HAL := Lib.hid hal
      have hB2 := builder_below hB hal
      have hbal := hbw.trans (hal.mono hsz)
      have hclose : ∀ (x : List UInt8) (W : World), Lx.textOf l[j] = x → Lib.BuilderAt 99 5 w.heap.size w.heap.size (.pointer (some ⟨w.heap.size, 0, none⟩)) (Lib.byteCells (Lx.text (l.take j)) ++ Lib.byteCells x) W →
          Lib.IsBuilder 99 5 w.heap.size w.heap.size (Lib.byteCells (Lx.text (l.take (j + 1)))) W := fun x W hx h => by
        rw [HT.out, text_snoc, hx, Lib.byteCells_append]; exact .inr h
      have HCL := Lib.hid hclose
      have HBA := Lib.hid hbal
      clear hl hs hbl hal hclose hbal
      rcases seven l[j].1 with t1 | ⟨t1, t2⟩ | ⟨t1, t2, t3⟩ | ⟨t1, t2, t3, t4⟩ | ⟨t1, t2, t3, t4, t5⟩ | ⟨t1, t2, t3, t4, t5, t6⟩ | ⟨t1, t2, t3, t4, t5, t6, t7⟩ | ⟨t1, t2, t3, t4, t5, t6, t7⟩
      · go_wp2_with (first | (go_at_call 52; (with_reducible refine (safe_any _ (by omega) _).mono ?_); rintro e w1 ⟨rfl, hb1⟩; have hB3 := builder_below hB2 hb1; have hsz1 := hb1.size; simp at hsz1) | (go_at_call 51; (with_reducible refine (Builder_WriteString w.heap.size w.heap.size _ _ _ hB3 (by rw [HBL.out, S_size]; omega) (by omega)).mono ?_); rintro e w2 ⟨rfl, hB4, hb4⟩))
        go_roundw
        case rel => exact ⟨j + 1, by omega, by go_num, HCL.out _ _ (by simp only [Lx.textOf, beq_iff_eq.1 t1]; rfl) hB4, (HBA.out.trans (hb1.mono (by simp; omega))).trans hb4⟩
        case measure => simp [intOf]; omega
      · go_wp2_with (first | (go_at_call 53; (with_reducible refine (Builder_WriteByte w.heap.size w.heap.size _ _ _ hB2 (by rw [HBL.out]; omega) (by simp; omega)).mono ?_); rintro e w2 ⟨rfl, hB4, hb4⟩))
        go_roundw
        case rel => exact ⟨j + 1, by omega, by go_num, HCL.out [32] _ (by simp only [Lx.textOf, beq_iff_eq.1 t2]; rfl) hB4, HBA.out.trans hb4⟩
        case measure => simp [intOf]; omega
      · go_wp2_with (first | (go_at_call 51; (with_reducible refine (Builder_WriteString w.heap.size w.heap.size _ _ _ hB2 (by rw [HBL.out, S_size]; simp; omega) (by simp; omega)).mono ?_); rintro e w2 ⟨rfl, hB4, hb4⟩))
        go_roundw
        case rel => exact ⟨j + 1, by omega, by go_num, HCL.out [10, 10] _ (by simp only [Lx.textOf, beq_iff_eq.1 t3]; rfl) hB4, HBA.out.trans hb4⟩
        case measure => simp [intOf]; omega
      · go_wp2_with (first | (go_at_call 51; (with_reducible refine (Builder_WriteString w.heap.size w.heap.size _ _ _ hB2 (by rw [HBL.out, S_size]; simp; omega) (by simp; omega)).mono ?_); rintro e w2 ⟨rfl, hB4, hb4⟩))
        go_roundw
        case rel => exact ⟨j + 1, by omega, by go_num, HCL.out (92 :: l[j].2) _ (by simp only [Lx.textOf, beq_iff_eq.1 t4]; rfl) hB4, HBA.out.trans hb4⟩
        case measure => simp [intOf]; omega
      · go_wp2_with (first | (go_at_call 53; (with_reducible refine (Builder_WriteByte w.heap.size w.heap.size _ _ _ hB2 (by rw [HBL.out]; omega) (by simp; omega)).mono ?_); rintro e w2 ⟨rfl, hB4, hb4⟩))
        go_roundw
        case rel => exact ⟨j + 1, by omega, by go_num, HCL.out [123] _ (by simp only [Lx.textOf, beq_iff_eq.1 t5]; rfl) hB4, HBA.out.trans hb4⟩
        case measure => simp [intOf]; omega
      · go_wp2_with (first | (go_at_call 53; (with_reducible refine (Builder_WriteByte w.heap.size w.heap.size _ _ _ hB2 (by rw [HBL.out]; omega) (by simp; omega)).mono ?_); rintro e w2 ⟨rfl, hB4, hb4⟩))
        go_roundw
        case rel => exact ⟨j + 1, by omega, by go_num, HCL.out [125] _ (by simp only [Lx.textOf, beq_iff_eq.1 t6]; rfl) hB4, HBA.out.trans hb4⟩
        case measure => simp [intOf]; omega
      · go_wp2_with (first | (go_at_call 51; (with_reducible refine (Builder_WriteString w.heap.size w.heap.size _ _ _ hB2 (by rw [HBL.out, S_size]; simp; omega) (by simp; omega)).mono ?_); rintro e w2 ⟨rfl, hB4, hb4⟩))
        go_roundw
        case rel => exact ⟨j + 1, by omega, by go_num, HCL.out (35 :: l[j].2) _ (by simp only [Lx.textOf, beq_iff_eq.1 t7]; rfl) hB4, HBA.out.trans hb4⟩
        case measure => simp [intOf]; omega
      · have hx : Hid (Lx.textOf l[j] = []) := by
          show _ = _
          simp only [beq_eq_false_iff_ne] at t1 t2 t3 t4 t5 t6 t7
          simp [Lx.textOf, *]
        go_wp2_with fail
        go_roundw
        case rel => exact ⟨j + 1, by omega, by go_num, (by rw [HT.out, text_snoc, hx.out, List.append_nil]; exact hB2), HBA.out⟩
        case measure => simp [intOf]; omega
    · obtain rfl : j = l.length := by omega
      rw [List.take_length] at *
      clear hl
      go_wp2_with (first | (go_at_call 54; (with_reducible refine (Builder_String_any w.heap.size w.heap.size _ _ hB (by omega)).mono ?_); rintro e w2 ⟨rfl, hb4⟩))
      go_ret
      exact ⟨rfl, hbw.trans hb4⟩

end Go.Proofs.Ytcdclkgfgieppaa
