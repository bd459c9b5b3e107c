
/- 'Parse' of the program, walked. No condition. -/
import Derived.Test.YtcdclkgfgieppaaItBox
import Derived.Test.YtcdclkgfgieppaaMacAny
import Derived.Test.YtcdclkgfgieppaaMacFlatQ
import Derived.Laws.EntriesVeiled
namespace Go.Proofs.Ytcdclkgfgieppaa
open Go.RowKit Go.Maps

theorem It.parse_cons (N : Nat) (t : Lx.Tok) (r out notes : List Lx.Tok) (h : r.length + 1 ≤ N) : It.parse N (t :: r) out notes =
    if t.1 = 1 then It.parse N r (It.word out t.2) notes
    else if t.1 = 2 ∨ t.1 = 3 then It.parse N r (out ++ [(t.1, [])]) notes
    else if t.1 = 4 then
      if It.kindOf t.2 = 0 then It.parse N r out (notes ++ [(11, t.2)])
      else if 13 < It.kindOf t.2 then It.parse N r (out ++ [((It.kindOf t.2 : Int), [])]) notes
      else match Mx.args 1 r with
        | none => It.parse N r out (notes ++ [(10, t.2)])
        | some (x, c) =>
          if It.noKey (Mx.flatOf (x.headD [])) then It.parse N (r.drop c) out (notes ++ [(2, t.2)])
          else It.parse N (r.drop c) (out ++ [((It.kindOf t.2 : Int), Mx.flatOf (x.headD []))]) notes
    else It.parse N r out notes := by
  cases N with
  | zero => omega
  | succ M =>
    have h1 : r.length ≤ M := by omega
    have h2 : r.length ≤ M + 1 := by omega
    have g1 : ∀ c, (r.drop c).length ≤ M := fun c => by rw [List.length_drop]; omega
    have g2 : ∀ c, (r.drop c).length ≤ M + 1 := fun c => by rw [List.length_drop]; omega
    have e1 : ∀ o n, It.parse M r o n = It.parse (M + 1) r o n := fun o n => It.parse_fuel _ _ _ _ _ h1 h2
    have e2 : ∀ c o n, It.parse M (r.drop c) o n = It.parse (M + 1) (r.drop c) o n := fun c o n => It.parse_fuel _ _ _ _ _ (g1 c) (g2 c)
    rw [It.parse]
    simp only [e1, e2]
    rfl

theorem args_one (r : List Lx.Tok) : Mx.args 1 r = none ∨ ∃ x c, Mx.args 1 r = some ([x], c) ∧ 2 ≤ c ∧ c ≤ r.length ∧ x.length ≤ r.length ∧ ∀ t ∈ x, t ∈ r := by
  unfold Mx.args
  cases hg : Mx.group (r.drop (Mx.spaces r)) with
  | none => exact .inl rfl
  | some g =>
    right
    have h1 := Mx.group_le hg
    rw [List.length_drop] at h1
    refine ⟨_, _, rfl, by simp; omega, by simp; omega, by rw [List.length_take, List.length_drop]; omega, fun t ht => List.mem_of_mem_drop (List.mem_of_mem_take ht)⟩

theorem It.word_bound {out : List Lx.Tok} {s : List UInt8} {a b : Nat} (h : ∀ t ∈ out, t.2.length ≤ a) (hs : s.length ≤ b) : ∀ t ∈ It.word out s, t.2.length ≤ a + b := by
  unfold It.word
  split
  · rename_i y hl
    intro t ht
    rcases List.mem_append.1 ht with h1 | h1
    · have := h t (List.dropLast_subset _ h1); omega
    · simp only [List.mem_singleton] at h1
      subst h1
      have := h (1, y) (List.mem_of_getLast? hl)
      simp only [List.length_append] at this ⊢; omega
  · split
    · intro t ht; have := h t ht; omega
    · intro t ht
      rcases List.mem_append.1 ht with h1 | h1
      · have := h t h1; omega
      · simp only [List.mem_singleton] at h1
        subst h1; simp; omega
theorem It.word_len (out : List Lx.Tok) (s : List UInt8) : (It.word out s).length ≤ out.length + 1 := by
  unfold It.word
  split
  · simp
  · split
    · omega
    · simp
theorem snoc_bound {out : List Lx.Tok} {z : Int} {s : List UInt8} {a : Nat} (h : ∀ t ∈ out, t.2.length ≤ a) (hs : s.length ≤ a) : ∀ t ∈ out ++ [(z, s)], t.2.length ≤ a := by
  intro t ht
  rcases List.mem_append.1 ht with h1 | h1
  · exact h t h1
  · simp only [List.mem_singleton] at h1; subst h1; exact hs

theorem PIn.start {w1 : World} {B bm : Nat} (hm : w1.ownsMap Try.prog 9 readC bm 13 comD) (hB : B ≤ w1.heap.size) {W : World}
    (hW : W = (((w1.alloc (.cells #[.slice none 0 0] 23)).alloc (.cells #[.slice none 0 0] 26)).alloc (.cells #[.func (.func 26) #[] #[.pointer (some ⟨w1.heap.size, 0, none⟩)]] 57))) :
      PIn W B w1.heap.size (w1.heap.size + 1) (w1.heap.size + 1 + 1) bm [] [] ∧ Below B w1 W := by
  subst hW
  have e1 : Bx (((w1.alloc (.cells #[.slice none 0 0] 23)).alloc (.cells #[.slice none 0 0] 26)).alloc (.cells #[.func (.func 26) #[] #[.pointer (some ⟨w1.heap.size, 0, none⟩)]] 57)) (w1.heap.size + 1 + 1) 57 (.func (.func 26) #[] #[.pointer (some ⟨w1.heap.size, 0, none⟩)]) := by
    have := heap_alloc_new ((w1.alloc (.cells #[.slice none 0 0] 23)).alloc (.cells #[.slice none 0 0] 26)) (.cells #[.func (.func 26) #[] #[.pointer (some ⟨w1.heap.size, 0, none⟩)]] 57)
    simpa [Bx] using this
  have e2 : Bx (((w1.alloc (.cells #[.slice none 0 0] 23)).alloc (.cells #[.slice none 0 0] 26)).alloc (.cells #[.func (.func 26) #[] #[.pointer (some ⟨w1.heap.size, 0, none⟩)]] 57)) w1.heap.size 23 (.slice none 0 0) :=
    (Below.heap_alloc _ _ _ (by simp; omega)).trans (alloc2_first _ _ _)
  have e3 : Bx (((w1.alloc (.cells #[.slice none 0 0] 23)).alloc (.cells #[.slice none 0 0] 26)).alloc (.cells #[.func (.func 26) #[] #[.pointer (some ⟨w1.heap.size, 0, none⟩)]] 57)) (w1.heap.size + 1) 26 (.slice none 0 0) :=
    (Below.heap_alloc _ _ _ (by simp)).trans (alloc2_second _ _ _)
  have hm3 := ((hm.alloc (.cells #[.slice none 0 0] 23)).alloc (.cells #[.slice none 0 0] 26)).alloc (.cells #[.func (.func 26) #[] #[.pointer (some ⟨w1.heap.size, 0, none⟩)]] 57)
  have b3 : Below B w1 (((w1.alloc (.cells #[.slice none 0 0] 23)).alloc (.cells #[.slice none 0 0] 26)).alloc (.cells #[.func (.func 26) #[] #[.pointer (some ⟨w1.heap.size, 0, none⟩)]] 57)) :=
    (((Below.refl B w1).alloc hB _).alloc (by simp; omega) _).alloc (by simp; omega) _
  exact ⟨⟨e1, ⟨_, e2, World.ownsRow_nil _ _ _ _⟩, ⟨_, e3, World.ownsRow_nil _ _ _ _⟩, hm3, hB, by omega, by omega⟩, b3⟩

theorem le60 {a n : Nat} (h : a ≤ 60) (hn : 0 < n) : a ≤ n * 100000 := by omega
theorem bound_mono {out : List Lx.Tok} {a b : Nat} (h : ∀ t ∈ out, t.2.length ≤ a) (hab : a ≤ b) : ∀ t ∈ out, t.2.length ≤ b := fun t ht => Nat.le_trans (h t ht) hab

set_option maxRecDepth 20000 in
set_option maxHeartbeats 8000000 in
/-- 'Parse'. -/
theorem parse9_any (v : Value) (l : List Lx.Tok) (w : World) (hl : Rt w v l) (hlen : l.length ≤ 1000) (hs : ∀ t ∈ l, t.2.length ≤ 100000) (hk : ∀ t ∈ l, (Lit.int .i64 t.1).wf = true) :
    Calls Try.prog 10 #[v] w fun e w' => ∃ vo vn, e = .returned (.tuple #[vo, vn]) ∧ w'.ownsRow w.heap.size 49 2 vo (It.parsed l).1.length (tcs (It.parsed l).1) ∧ w'.ownsRow w.heap.size 60 2 vn (It.parsed l).2.length (tcs (It.parsed l).2) ∧ Below w.heap.size w w' := by
  obtain ⟨a0, c0, rfl⟩ := hl.shape
  have HL := Lib.hid hl
  have HK := Lib.hid hk
  have HS := Lib.hid hs
  clear hl hk hs
  have hmf : ∀ (fn : Fn) (first cap : Array Value) (w : World), (Instr.makeFunc fn first cap).run Try.prog w = .ok (.func fn first cap) w := fun _ _ _ _ => rfl
  go_enter Try.func10, Try.ntmps10
  simp only [S_lit]
  go_wp2_with fail
  (with_reducible refine (commands_any _).mono ?_); rintro e w1 ⟨rfl, hown, b1⟩
  obtain ⟨W, hW⟩ : ∃ W, W = (((w1.alloc (.cells #[.slice none 0 0] 23)).alloc (.cells #[.slice none 0 0] 26)).alloc (.cells #[.func (.func 26) #[] #[.pointer (some ⟨w1.heap.size, 0, none⟩)]] 57)) := ⟨_, rfl⟩
  obtain ⟨hP, bP⟩ := PIn.start hown b1.size hW
  have hsz1 := b1.size
  go_wp2_with fail
  rw [← hW]
  go_loopw [10] (fun i wr => ∃ (k : Nat) (out notes : List Lx.Tok), k ≤ l.length ∧ i = .int .i64 k ∧ Hid (It.parsed l = It.parse l.length (l.drop k) out notes) ∧ PIn wr w.heap.size w1.heap.size (w1.heap.size + 1) (w1.heap.size + 1 + 1) w.heap.size out notes ∧ out.length ≤ k ∧ notes.length ≤ k ∧ Hid (∀ t ∈ out, t.2.length ≤ k * 100000) ∧ Below w.heap.size w wr) (fun i _ => l.length - (intOf i).toNat)
  case atStart => exact ⟨0, [], [], Nat.zero_le _, rfl, Lib.hid rfl, hP, Nat.le_refl _, Nat.le_refl _, Lib.hid (by simp), b1.trans (bP.mono (Nat.le_refl _))⟩
  case round =>
    obtain ⟨k, out, notes, hk, rfl, HE, hP, hol, hnl, HO, hbw⟩ := hrel
    have hsz := hbw.size
    by_cases hlt : k < l.length
    · obtain ⟨b1, o1, rfl, c10, c11⟩ := (HL.out.below' hbw).at hlt
      have hwf := HK.out _ (List.getElem_mem hlt)
      have hst := HS.out _ (List.getElem_mem hlt)
      have HEN := Lib.hid (HE.out.trans ((congrArg (fun x => It.parse l.length x out notes) (drop_at hlt)).trans (It.parse_cons l.length l[k] (l.drop (k + 1)) out notes (by rw [List.length_drop]; omega))))
      obtain ⟨⟨z, s⟩, hzs⟩ : ∃ x, x = l[k] := ⟨_, rfl⟩
      rw [← hzs] at c10 c11 HEN hwf hst
      clear hzs HE
      have hP1 := hP.below ((Below.refl wr.heap.size wr).alloc (Nat.le_refl _) (.cells #[.int .i64 z, .string (S s)] 48))
      have bw1 : Below w.heap.size w (wr.alloc (.cells #[.int .i64 z, .string (S s)] 48)) := hbw.alloc hsz _
      have hpos := Lib.hid (bound_mono HO.out (show k * 100000 ≤ (k + 1) * 100000 by omega))
      rcases (by omega : (z < 1 ∨ 4 < z) ∨ z = 1 ∨ (z = 2 ∨ z = 3) ∨ z = 4) with hz | hz | hz | hz
      · have HE2 := HEN.out
        rw [if_neg (by simp only; omega), if_neg (by simp only; omega), if_neg (by simp only; omega)] at HE2
        have HE3 := Lib.hid HE2
        clear HE2 HEN
        have hz1 : (z == 1) = false := by simp; omega
        have hz2 : (z == 2) = false := by simp; omega
        have hz3 : (z == 3) = false := by simp; omega
        have hz4 : (z == 4) = false := by simp; omega
        go_wp2_with fail
        go_roundw
        case rel => exact ⟨k + 1, out, notes, by omega, by go_num, HE3, hP1, by omega, by omega, hpos, bw1⟩
        case measure => simp [intOf]; omega
      · subst hz
        have HE2 := HEN.out
        rw [if_pos rfl] at HE2
        have HE3 := Lib.hid HE2
        clear HE2 HEN
        have HB := Lib.hid (It.word_bound HO.out hst)
        have hwl := It.word_len out s
        go_wp2_with (first
          | (go_at_call 28; (with_reducible refine (word9_any _ w.heap.size w1.heap.size (w1.heap.size + 1) (w1.heap.size + 1 + 1) w.heap.size out notes hP1 bw1.size (by omega) s (by simp only at hst; omega) (bound_mono HO.out (by omega))).mono ?_); rintro e w2 ⟨rfl, hP2, b2⟩)
          | fail)
        go_roundw
        case rel => exact ⟨k + 1, It.word out s, notes, by omega, by go_num, HE3, hP2, by omega, by omega, Lib.hid (bound_mono HB.out (by omega)), bw1.trans b2⟩
        case measure => simp [intOf]; omega
      · have HE2 := HEN.out
        rw [if_neg (by simp only; omega), if_pos hz] at HE2
        have HE3 := Lib.hid HE2
        clear HE2 HEN
        have hz1 : (z == 1) = false := by simp; omega
        have cp := hP1.p.cell
        rcases hz with hz | hz
        all_goals (
          subst hz
          go_wp2_with (first
            | (go_at_call 26; (with_reducible refine (put_any _ w.heap.size w1.heap.size (w1.heap.size + 1) (w1.heap.size + 1 + 1) w.heap.size out notes hP1 bw1.size (by omega) _ []).mono ?_); rintro e w2 ⟨rfl, hP2, b2⟩)
            | fail)
          go_roundw
          case rel => exact ⟨k + 1, _, notes, by omega, by go_num, HE3, hP2, by simp; omega, by omega, Lib.hid (snoc_bound hpos.out (by simp)), bw1.trans b2⟩
          case measure => simp [intOf]; omega
        )
      · subst hz
        have HE2 := HEN.out
        rw [if_neg (by simp), if_neg (by simp), if_pos rfl] at HE2
        simp only at HE2 hst
        have HE3 := Lib.hid HE2
        clear HE2 HEN
        by_cases hk0 : It.kindOf s = 0
        · have HE2 := HE3.out
          rw [if_pos hk0] at HE2
          have HE4 := Lib.hid HE2
          clear HE2 HE3
          go_wp2_with (first
            | (at_lookup; refine wp_com_miss _ rfl _ _ rfl w.heap.size rfl hP1.m s rfl (by omega) hk0 ?_)
            | (go_at_call 27; (with_reducible refine (note_any _ w.heap.size w1.heap.size (w1.heap.size + 1) (w1.heap.size + 1 + 1) w.heap.size out notes (hP1.below ((Below.refl _ _).alloc (Nat.le_refl _) _)) (bw1.alloc bw1.size _).size (by omega) _ s).mono ?_); rintro e w2 ⟨rfl, hP2, b2⟩)
            | fail)
          go_roundw
          case rel => exact ⟨k + 1, out, _, by omega, by go_num, HE4, hP2, by omega, by simp; omega, hpos, (bw1.alloc bw1.size _).trans b2⟩
          case measure => simp [intOf]; omega
        · have HE2 := HE3.out
          rw [if_neg hk0] at HE2
          have HK2 := It.kindOf_le s
          have HG := Lib.hid (show It.grp (It.kindOf s) = if It.kindOf s ≤ 13 then 1 else 0 from rfl)
          obtain ⟨g, hg⟩ : ∃ g, g = It.grp (It.kindOf s) := ⟨_, rfl⟩
          obtain ⟨kd, hkd⟩ : ∃ kd, kd = It.kindOf s := ⟨_, rfl⟩
          rw [← hg, ← hkd] at HG
          rw [← hkd] at HE2 hk0 HK2
          have HKD := Lib.hid hkd
          have HG0 := Lib.hid hg
          clear hkd hg
          have HE4 := Lib.hid HE2
          clear HE2 HE3
          obtain ⟨C, hC0⟩ : ∃ C, C = Obj.cells #[.int .i64 (kd : Int), .int .i64 g] 65 := ⟨_, rfl⟩
          have hC := alloc2_second wr (.cells #[.int .i64 4, .string (S s)] 48) C
          have hT := alloc2_first wr (.cells #[.int .i64 4, .string (S s)] 48) C
          have hP2 := hP1.below ((Below.refl _ _).alloc (Nat.le_refl _) C)
          have bw2 := bw1.alloc bw1.size C
          have hl2 := HL.out.below' bw2
          have hargs := fun (n : Nat) (hn : n ≤ 9) => args_in _ l (k + 1) n _ hl2 (by omega) (by omega) hn
          rw [show ((k + 1 : Nat) : Int) = (k : Int) + 1 by omega] at hargs
          by_cases h13 : 13 < kd
          · have hg0 : g = 0 := by rw [HG.out, if_neg (by omega)]
            subst hg0
            have HE2 := HE4.out
            rw [if_pos h13] at HE2
            have HE5 := Lib.hid HE2
            clear HE2 HE4 HG
            have ha := hargs 0 (by omega)
            simp only [Mx.args, ares, Int.cast_ofNat_Int, Int.add_zero, show ((k + 1 : Nat) : Int) = (k : Int) + 1 by omega] at ha
            clear hargs
            subst hC0
            go_wp2_with (first
              | (at_lookup; refine wp_com_hit _ rfl _ _ rfl w.heap.size rfl hP1.m s rfl (by omega) (by rw [← HKD.out]; exact hk0) ?_; rw [← HG0.out, ← HKD.out])
              | (go_at_call 29; (with_reducible refine ha.mono ?_); rintro e w3 ⟨v3, rfl, hx3, b3⟩; have hP3 := hP2.below b3; have hC3 := (b3.block _ (row_lt hC)).trans hC; have hT3 := (b3.block _ (row_lt hT)).trans hT; have d0 := pair_cell0 hC3; have d1 := pair_cell1 hC3; have d2 := pair_cell1 hT3; have cp := hP3.p.cell; have bw3 := bw2.trans (b3.mono bw2.size))
              | (go_at_call 26; (with_reducible refine (put_any _ w.heap.size w1.heap.size (w1.heap.size + 1) (w1.heap.size + 1 + 1) w.heap.size out notes hP3 bw3.size (by omega) _ []).mono ?_); rintro e w4 ⟨rfl, hP4, b4⟩)
              | fail)
            go_roundw
            case rel => exact ⟨k + 1, _, notes, by omega, by go_num, HE5, hP4, by simp; omega, by omega, Lib.hid (snoc_bound hpos.out (by simp)), bw3.trans b4⟩
            case measure => simp [intOf]; omega
          · have hg1 : g = 1 := by rw [HG.out, if_pos (by omega)]
            subst hg1
            have HE2 := HE4.out
            rw [if_neg h13] at HE2
            have HE5 := Lib.hid HE2
            clear HE2 HE4 HG
            have ha := hargs 1 (by omega)
            clear hargs
            rcases args_one (l.drop (k + 1)) with h0 | ⟨x, c, h1, hc2, hcl, hxl, hxm⟩
            · have HE2 := HE5.out
              rw [h0] at HE2 ha
              have HE6 := Lib.hid HE2
              clear HE2 HE5
              simp only [ares, Int.cast_ofNat_Int] at ha
              subst hC0
              go_wp2_with (first
                | (at_lookup; refine wp_com_hit _ rfl _ _ rfl w.heap.size rfl hP1.m s rfl (by omega) (by rw [← HKD.out]; exact hk0) ?_; rw [← HG0.out, ← HKD.out])
                | (go_at_call 29; (with_reducible refine ha.mono ?_); rintro e w3 ⟨v3, rfl, hx3, b3⟩; have hP3 := hP2.below b3; have hC3 := (b3.block _ (row_lt hC)).trans hC; have hT3 := (b3.block _ (row_lt hT)).trans hT; have d0 := pair_cell0 hC3; have d1 := pair_cell1 hC3; have d2 := pair_cell1 hT3; have cp := hP3.p.cell; have bw3 := bw2.trans (b3.mono bw2.size))
                | (go_at_call 27; (with_reducible refine (note_any _ w.heap.size w1.heap.size (w1.heap.size + 1) (w1.heap.size + 1 + 1) w.heap.size out notes hP3 bw3.size (by omega) _ s).mono ?_); rintro e w4 ⟨rfl, hP4, b4⟩)
                | fail)
              go_roundw
              case rel => exact ⟨k + 1, out, _, by omega, by go_num, HE6, hP4, by omega, by simp; omega, hpos, bw3.trans b4⟩
              case measure => simp [intOf]; omega
            · have HE2 := HE5.out
              rw [h1] at HE2 ha
              have HE6 := Lib.hid HE2
              clear HE2 HE5
              simp only [ares, Int.cast_ofNat_Int, show ((k + 1 : Nat) : Int) = (k : Int) + 1 by omega] at ha
              rw [List.length_drop] at hcl
              obtain ⟨f, hf⟩ : ∃ f, f = Mx.flatOf x := ⟨_, rfl⟩
              have HF := Lib.hid hf
              have hfl : f.length ≤ 1000 * 100001 := by
                rw [hf]
                have h7 := Mx.flat_le (fun t ht => HS.out t (List.mem_of_mem_drop (hxm t ht)) : ∀ t ∈ x, t.2.length ≤ 100000)
                rw [List.length_drop] at hxl
                exact Nat.le_trans h7 (Nat.mul_le_mul (by omega) (Nat.le_refl _))
              clear hf
              have HE7 := HE6.out
              simp only [List.headD_cons, ← HF.out, List.drop_drop] at HE7
              have HE8 := Lib.hid HE7
              clear HE7 HE6
              have hpos2 := Lib.hid (bound_mono HO.out (show k * 100000 ≤ (k + 1 + c) * 100000 by omega))
              subst hC0
              cases hno : It.noKey f
              · have HE7 := HE8.out
                rw [hno, if_neg (by simp)] at HE7
                have HE9 := Lib.hid HE7
                clear HE7 HE8
                have hf60 : (f.length : Int) ≤ 60 := by
                  simp only [It.noKey, Bool.or_eq_false_iff, decide_eq_false_iff_not] at hno
                  omega
                have hfe : f.isEmpty = false := by
                  simp only [It.noKey, Bool.or_eq_false_iff] at hno
                  cases f with | nil => simp at hno | cons _ _ => rfl
                have hfb : (f == []) = false := by
                  simp only [It.noKey, Bool.or_eq_false_iff] at hno
                  exact hno.1
                have hfd : decide (60 < (f.length : Int)) = false := by simp; omega
                go_wp2_with (first
                  | (at_lookup; refine wp_com_hit _ rfl _ _ rfl w.heap.size rfl hP1.m s rfl (by omega) (by rw [← HKD.out]; exact hk0) ?_; rw [← HG0.out, ← HKD.out])
                  | (go_at_call 29; (with_reducible refine ha.mono ?_); rintro e w3 ⟨v3, rfl, hx3, b3⟩; have hP3 := hP2.below b3; have hC3 := (b3.block _ (row_lt hC)).trans hC; have hT3 := (b3.block _ (row_lt hT)).trans hT; obtain ⟨q3, p3, rfl⟩ := hx3.shape; obtain ⟨b5, o5, u5, eq5, d5, hu5, _⟩ := Rts.at hx3 (i := 0) (by simp); cases eq5; simp only [Nat.add_zero] at d5; have hu6 : Rt w3 u5 x := hu5; have d0 := pair_cell0 hC3; have d1 := pair_cell1 hC3; have d2 := pair_cell1 hT3; have cp := hP3.p.cell; have bw3 := bw2.trans (b3.mono bw2.size))
                  | (go_at_call 30; (with_reducible refine (flat_any _ _ _ hu6 (by rw [List.length_drop] at hxl; omega) (fun t ht => HS.out t (List.mem_of_mem_drop (hxm t ht)))).mono ?_); rintro e w4 ⟨rfl, b4⟩; rw [← HF.out]; clear d0 d1 d2 cp; have hP4 := hP3.below b4; have hC4 := (b4.block _ (row_lt hC3)).trans hC3; have hT4 := (b4.block _ (row_lt hT3)).trans hT3; have d0 := pair_cell0 hC4; have d1 := pair_cell1 hC4; have d2 := pair_cell1 hT4; have cp := hP4.p.cell; have bw4 := bw3.trans (b4.mono bw3.size))
                  | (go_at_call 26; (with_reducible refine (put_any _ w.heap.size w1.heap.size (w1.heap.size + 1) (w1.heap.size + 1 + 1) w.heap.size out notes hP4 bw4.size (by omega) _ f).mono ?_); rintro e w5 ⟨rfl, hP5, b5⟩)
                  | fail)
                go_roundw
                case rel =>
                  have hf61 : f.length ≤ 60 := Int.ofNat_le.1 hf60
                  have hfk : f.length ≤ (k + 1 + c) * 100000 := le60 hf61 (Nat.lt_of_lt_of_le (Nat.succ_pos k) (Nat.le_add_right _ _))
                  have h6 := snoc_bound (z := (kd : Int)) hpos2.out hfk
                  exact ⟨k + 1 + c, _, notes, by omega, by go_num, HE9, hP5, by simp; omega, by omega, Lib.hid h6, bw4.trans b5⟩
                case measure => simp [intOf]; omega
              · have HE7 := HE8.out
                rw [hno, if_pos rfl] at HE7
                have HE9 := Lib.hid HE7
                clear HE7 HE8
                by_cases hf0 : f = []
                · subst hf0
                  go_wp2_with (first
                    | (at_lookup; refine wp_com_hit _ rfl _ _ rfl w.heap.size rfl hP1.m s rfl (by omega) (by rw [← HKD.out]; exact hk0) ?_; rw [← HG0.out, ← HKD.out])
                    | (go_at_call 29; (with_reducible refine ha.mono ?_); rintro e w3 ⟨v3, rfl, hx3, b3⟩; have hP3 := hP2.below b3; have hC3 := (b3.block _ (row_lt hC)).trans hC; have hT3 := (b3.block _ (row_lt hT)).trans hT; obtain ⟨q3, p3, rfl⟩ := hx3.shape; obtain ⟨b5, o5, u5, eq5, d5, hu5, _⟩ := Rts.at hx3 (i := 0) (by simp); cases eq5; simp only [Nat.add_zero] at d5; have hu6 : Rt w3 u5 x := hu5; have d0 := pair_cell0 hC3; have d1 := pair_cell1 hC3; have d2 := pair_cell1 hT3; have cp := hP3.p.cell; have bw3 := bw2.trans (b3.mono bw2.size))
                    | (go_at_call 30; (with_reducible refine (flat_any _ _ _ hu6 (by rw [List.length_drop] at hxl; omega) (fun t ht => HS.out t (List.mem_of_mem_drop (hxm t ht)))).mono ?_); rintro e w4 ⟨rfl, b4⟩; rw [← HF.out]; clear d0 d1 d2 cp; have hP4 := hP3.below b4; have hC4 := (b4.block _ (row_lt hC3)).trans hC3; have hT4 := (b4.block _ (row_lt hT3)).trans hT3; have d0 := pair_cell0 hC4; have d1 := pair_cell1 hC4; have d2 := pair_cell1 hT4; have cp := hP4.p.cell; have bw4 := bw3.trans (b4.mono bw3.size))
                    | (go_at_call 27; (with_reducible refine (note_any _ w.heap.size w1.heap.size (w1.heap.size + 1) (w1.heap.size + 1 + 1) w.heap.size out notes hP4 bw4.size (by omega) _ s).mono ?_); rintro e w5 ⟨rfl, hP5, b5⟩)
                    | fail)
                  go_roundw
                  case rel => exact ⟨k + 1 + c, out, _, by omega, by go_num, HE9, hP5, by omega, by simp; omega, hpos2, bw4.trans b5⟩
                  case measure => simp [intOf]; omega
                · have hf60 : 60 < (f.length : Int) := by
                    simp only [It.noKey, Bool.or_eq_true, decide_eq_true_eq, beq_iff_eq] at hno
                    rcases hno with h | h
                    · exact absurd h hf0
                    · omega
                  have hfe : f.isEmpty = false := by
                    cases f with | nil => exact absurd rfl hf0 | cons _ _ => rfl
                  have hfb : (f == []) = false := by simpa using hf0
                  go_wp2_with (first
                    | (at_lookup; refine wp_com_hit _ rfl _ _ rfl w.heap.size rfl hP1.m s rfl (by omega) (by rw [← HKD.out]; exact hk0) ?_; rw [← HG0.out, ← HKD.out])
                    | (go_at_call 29; (with_reducible refine ha.mono ?_); rintro e w3 ⟨v3, rfl, hx3, b3⟩; have hP3 := hP2.below b3; have hC3 := (b3.block _ (row_lt hC)).trans hC; have hT3 := (b3.block _ (row_lt hT)).trans hT; obtain ⟨q3, p3, rfl⟩ := hx3.shape; obtain ⟨b5, o5, u5, eq5, d5, hu5, _⟩ := Rts.at hx3 (i := 0) (by simp); cases eq5; simp only [Nat.add_zero] at d5; have hu6 : Rt w3 u5 x := hu5; have d0 := pair_cell0 hC3; have d1 := pair_cell1 hC3; have d2 := pair_cell1 hT3; have cp := hP3.p.cell; have bw3 := bw2.trans (b3.mono bw2.size))
                    | (go_at_call 30; (with_reducible refine (flat_any _ _ _ hu6 (by rw [List.length_drop] at hxl; omega) (fun t ht => HS.out t (List.mem_of_mem_drop (hxm t ht)))).mono ?_); rintro e w4 ⟨rfl, b4⟩; rw [← HF.out]; clear d0 d1 d2 cp; have hP4 := hP3.below b4; have hC4 := (b4.block _ (row_lt hC3)).trans hC3; have hT4 := (b4.block _ (row_lt hT3)).trans hT3; have d0 := pair_cell0 hC4; have d1 := pair_cell1 hC4; have d2 := pair_cell1 hT4; have cp := hP4.p.cell; have bw4 := bw3.trans (b4.mono bw3.size))
                    | (go_at_call 27; (with_reducible refine (note_any _ w.heap.size w1.heap.size (w1.heap.size + 1) (w1.heap.size + 1 + 1) w.heap.size out notes hP4 bw4.size (by omega) _ s).mono ?_); rintro e w5 ⟨rfl, hP5, b5⟩)
                    | fail)
                  go_roundw
                  case rel => exact ⟨k + 1 + c, out, _, by omega, by go_num, HE9, hP5, by omega, by simp; omega, hpos2, bw4.trans b5⟩
                  case measure => simp [intOf]; omega
    · obtain rfl : k = l.length := by omega
      have he := HE.out
      rw [List.drop_length] at he
      obtain ⟨vo, h1, h2⟩ := hP.o
      obtain ⟨vn, h3, h4⟩ := hP.n
      have c1 := h1.cell
      have c2 := h3.cell
      have he2 : It.parse l.length [] out notes = (out, notes) := by cases l.length <;> rfl
      rw [he2] at he
      have HF := Lib.hid he
      clear he
      go_wp2_with fail
      go_quiet (fail)
      go_wp2_with fail
      go_ret2
      exact ⟨vo, vn, rfl, by rw [HF.out]; exact own_drewN h2 _, by rw [HF.out]; exact own_drewN h4 _, below_drewN hbw _⟩

end Go.Proofs.Ytcdclkgfgieppaa
