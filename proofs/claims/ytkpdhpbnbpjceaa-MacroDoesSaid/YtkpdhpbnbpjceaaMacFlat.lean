
/- The macro layer: flat texts; the program's walk and the reference's. No condition. -/
import Derived.Test.YtkpdhpbnbpjceaaMacSq
namespace Go.Proofs.Ytkpdhpbnbpjceaa
open Go.RowKit

theorem tyStr : SlTy Try.prog 72 9 1 16 := SlTy.mk' (z := .string ⟨#[]⟩) Try.underlying72 (by kernel_rfl) rfl (by decide)
/-- The cells of texts. -/
def scs (ws : List (List UInt8)) : List Value := ws.map fun s => Value.string (S s)
theorem scs_snoc (a : List (List UInt8)) (s : List UInt8) : scs (a ++ [s]) = scs a ++ [.string (S s)] := by simp [scs]
theorem scs_length (a : List (List UInt8)) : (scs a).length = a.length := by simp [scs]
theorem str_one {s : ByteArray} : ∀ u ∈ [Value.string s], u.oneCell' = true := by
  intro u hu; simp at hu; rcases hu with rfl; rfl

/-- A cell of what the call owns, set. -/
theorem own_set {w : World} {base e n g c : Nat} {xs : List Value} (h : w.ownsRow base e 1 (.slice (some ⟨g, 0, none⟩) n c) n xs) (j : Nat) (x : Value) :
    (w.setCell ⟨g, j, none⟩ x).ownsRow base e 1 (.slice (some ⟨g, 0, none⟩) n c) n (xs.set j x) := by
  refine ⟨by rw [List.length_set]; exact h.1, ?_⟩
  rcases h.2 with ⟨h2, _⟩ | ⟨g', cap, cur, hv, hb, hg, hn, hc, hs, ht⟩
  · cases h2
  · cases hv
    refine .inr ⟨g, c, cur.set! j x, rfl, hb, row_set hg j x, hn, hc, by simp [hs], ?_⟩
    rw [← ht]
    simp [List.take_set]
theorem own_free {w : World} {base e n g c k : Nat} {xs : List Value} (h : w.ownsRow base e k (.slice (some ⟨g, 0, none⟩) n c) n xs) (j : Nat) : w.frozen? ⟨g, j, none⟩ = false := by
  rcases h.2 with ⟨h2, _⟩ | ⟨g', cap, cur, hv, hb, hg, _⟩
  · cases h2
  · cases hv; exact row_free hg j
theorem own_at {w : World} {base e n g c k : Nat} {xs : List Value} (h : w.ownsRow base e k (.slice (some ⟨g, 0, none⟩) n c) n xs) {j : Nat} {u : Value} (hj : xs[j]? = some u) : w.cell? ⟨g, j, none⟩ = some u := by
  have := h.cells (g := g) rfl j u hj
  rwa [addr_add, Nat.zero_add] at this

theorem join_words_le {m : Nat} (l : List Lx.Tok) (h : ∀ t ∈ l, t.2.length ≤ m) : (Mx.words l).1.length ≤ l.length ∧ ((Mx.words l).2 = true → (Mx.words l).1 ≠ []) ∧ (Lib.join (Mx.words l).1 [32]).length ≤ l.length * (m + 1) := by
  refine Mx.revTok (motive := fun l => (∀ t ∈ l, t.2.length ≤ m) → (Mx.words l).1.length ≤ l.length ∧ ((Mx.words l).2 = true → (Mx.words l).1 ≠ []) ∧ (Lib.join (Mx.words l).1 [32]).length ≤ l.length * (m + 1)) (fun _ => by simp [Mx.words, Lib.join_nil]) (fun a t ih h => ?_) l h
  obtain ⟨i1, i2, i3⟩ := ih fun t ht => h t (by simp [ht])
  have ht := h t (by simp)
  rw [Mx.words_snoc, List.length_append, List.length_singleton, Nat.add_mul, Nat.one_mul]
  unfold Mx.wstep
  by_cases h23 : t.1 = 2 ∨ t.1 = 3
  · rw [if_pos h23]
    exact ⟨by simp; omega, fun h => Bool.noConfusion h, by simp; omega⟩
  · rw [if_neg h23]
    by_cases h1 : t.1 = 1
    · rw [if_pos h1]
      cases ho : (Mx.words a).2
      · simp only [Bool.false_eq_true, if_false]
        refine ⟨by simp; omega, fun _ => by simp, ?_⟩
        by_cases hw : (Mx.words a).1 = []
        · rw [hw, List.nil_append, Lib.join_one]; omega
        · rw [Mx.join_snoc _ _ hw]; simp; omega
      · simp only [if_true]
        have hne := i2 ho
        have e : (Mx.words a).1.dropLast ++ [(Mx.words a).1.getLastD []] = (Mx.words a).1 := by
          rw [List.getLastD_eq_getLast?, List.getLast?_eq_some_getLast hne, Option.getD_some, List.dropLast_concat_getLast]
        refine ⟨by simp; omega, fun _ => by simp, ?_⟩
        rw [Mx.join_grow, e]; simp; omega
    · rw [if_neg h1]
      exact ⟨by omega, i2, by omega⟩

set_option maxRecDepth 20000 in
set_option maxHeartbeats 1600000 in
/-- The reference's 'Flat'. -/
theorem refFlat_any (v : Value) (l : List Lx.Tok) (w : World) (hl : Rt w v l) (hlen : l.length ≤ 1000) (hs : ∀ t ∈ l, t.2.length ≤ 100000) :
    Calls Try.prog 24 #[v] w fun e w' => e = .returned (.string (S (Mx.flatOf l))) ∧ w' = w := by
  obtain ⟨a0, c0, rfl⟩ := hl.shape
  have HL := Lib.hid hl
  clear hl
  go_enter Try.func24, Try.ntmps24
  simp only [S_lit]
  go_wp2_with fail
  go_loop [3, 4] (fun o i => ∃ (k : Nat) (acc : List UInt8), k ≤ l.length ∧ i = .int .i64 k ∧ o = .string (S acc) ∧ acc.length ≤ k * 100000 ∧ Hid (acc = Mx.bare (l.take k))) (fun _ i => l.length - (intOf i).toNat)
  case atStart => exact ⟨0, [], Nat.zero_le _, rfl, rfl, Nat.zero_le _, rfl⟩
  case round =>
    obtain ⟨k, acc, hk, rfl, rfl, hal, HC⟩ := hrel
    by_cases hlt : k < l.length
    · obtain ⟨b1, o1, rfl, c10, c11⟩ := HL.out.at hlt
      have hsl := hs _ (List.getElem_mem hlt)
      have hsn := Lib.hid (show Mx.bare (l.take (k + 1)) = acc ++ (if l[k].1 = 1 then l[k].2 else if l[k].1 = 2 ∨ l[k].1 = 3 then [32] else []) by rw [take_snoc l k hlt, Mx.bare_snoc, HC.out])
      obtain ⟨z, s, hzs⟩ : ∃ z s, l[k] = (z, s) := ⟨_, _, rfl⟩
      rw [hzs] at c10 c11 hsn hsl
      clear hzs
      have hsl2 : s.length ≤ 100000 := hsl
      have hsum : acc.length + s.length ≤ 1000000000 := by omega
      clear hsl
      cases h1 : (z == 1)
      · cases h2 : (z == 2)
        · cases h3 : (z == 3)
          · have HN := Lib.hid (hsn.out.trans (by rw [if_neg (by simpa using h1), if_neg (by have a := h2; have b := h3; simp at a b; omega), List.append_nil]))
            go_wp2_with fail
            go_round
            case rel => exact ⟨k + 1, acc, by omega, by go_num, rfl, Nat.le_trans hal (Nat.mul_le_mul_right _ (Nat.le_succ k)), Lib.hid HN.out.symm⟩
            case measure => simp [intOf]; omega
          · have HN := Lib.hid (hsn.out.trans (by rw [if_neg (by simpa using h1), if_pos (.inr (by simpa using h3))]))
            go_wp2_with fail
            go_round
            case rel => exact ⟨k + 1, acc ++ [32], by omega, by go_num, rfl, by simp; omega, Lib.hid HN.out.symm⟩
            case measure => simp [intOf]; omega
        · have HN := Lib.hid (hsn.out.trans (by rw [if_neg (by simpa using h1), if_pos (.inl (by simpa using h2))]))
          go_wp2_with fail
          go_round
          case rel => exact ⟨k + 1, acc ++ [32], by omega, by go_num, rfl, by simp; omega, Lib.hid HN.out.symm⟩
          case measure => simp [intOf]; omega
      · have hz : z = 1 := by simpa using h1
        subst hz
        have HN := Lib.hid (hsn.out.trans (by rw [if_pos rfl]))
        go_wp2_with fail
        go_round
        case rel => exact ⟨k + 1, acc ++ s, by omega, by go_num, rfl, by simp; omega, Lib.hid HN.out.symm⟩
        case measure => simp [intOf]; omega
    · obtain rfl : k = l.length := by omega
      have HE := Lib.hid (show Mx.sqz acc = Mx.flatOf l by rw [HC.out, List.take_length]; rfl)
      go_wp2_with fail
      (with_reducible refine (refSqueezed_any _ (by omega) _).mono ?_); rintro e w3 ⟨rfl, rfl⟩
      rw [HE.out]
      go_wp2_with fail
      go_ret
      exact ⟨rfl, rfl⟩

set_option maxRecDepth 20000 in
set_option maxHeartbeats 1600000 in
/-- 'Flat'. -/
theorem flat_any (v : Value) (l : List Lx.Tok) (w : World) (hl : Rt w v l) (hlen : l.length ≤ 1000) (hs : ∀ t ∈ l, t.2.length ≤ 100000) :
    Calls Try.prog 23 #[v] w fun e w' => e = .returned (.string (S (Mx.flatOf l))) ∧ Below w.heap.size w w' := by
  obtain ⟨a0, c0, rfl⟩ := hl.shape
  have HL := Lib.hid hl
  clear hl
  go_enter Try.func23, Try.ntmps23
  simp only [S_lit]
  go_wp2_with fail
  go_loopw [3, 4, 9] (fun v op i wr => ∃ (k : Nat) (ws : List (List UInt8)) (o : Bool), k ≤ l.length ∧ i = .int .i64 k ∧ op = .bool o ∧ Hid (Mx.words (l.take k) = (ws, o)) ∧ wr.ownsRow w.heap.size 9 1 v ws.length (scs ws) ∧ Below w.heap.size w wr) (fun _ _ i _ => l.length - (intOf i).toNat)
  case atStart => exact ⟨0, [], false, Nat.zero_le _, rfl, rfl, rfl, World.ownsRow_nil _ _ _ _, Below.refl _ _⟩
  case round =>
    obtain ⟨k, ws, o, hk, rfl, rfl, HC, hown, hbw⟩ := hrel
    have hsz := hbw.size
    have hjl := join_words_le (m := 100000) (l.take k) (fun t ht => hs t (List.mem_of_mem_take ht))
    rw [HC.out] at hjl
    have hwl : ws.length ≤ 1000 := by have := hjl.1; simp at this; omega
    by_cases hlt : k < l.length
    · obtain ⟨b1, o1, rfl, c10, c11⟩ := (HL.out.below' hbw).at hlt
      have hsl := hs _ (List.getElem_mem hlt)
      have hsn := Lib.hid (show Mx.words (l.take (k + 1)) = Mx.wstep (ws, o) l[k] by rw [take_snoc l k hlt, Mx.words_snoc, HC.out])
      obtain ⟨z, s, hzs⟩ : ∃ z s, l[k] = (z, s) := ⟨_, _, rfl⟩
      rw [hzs] at c10 c11 hsn hsl
      clear hzs
      have hsl2 : s.length ≤ 100000 := hsl
      have HNE := Lib.hid hjl.2.1
      have hj3 := hjl.2.2
      have hk4 : (l.take k).length = k := by simp; omega
      rw [hk4] at hj3
      clear hsl hjl hk4
      go_wp2_with fail
      (with_reducible refine (of2_any (z, s) 2 3 _ _ (by simp)).mono ?_); rintro e w2 ⟨rfl, b2⟩
      have ht2 := (b2.block wr.heap.size (by simp)).trans (heap_alloc_new wr _)
      have b2' : Below wr.heap.size wr w2 := ((Below.refl _ wr).alloc (Nat.le_refl _) _).trans (b2.mono (by simp))
      have bw2 := hbw.trans (b2'.mono hsz)
      have hs2 := b2'.size
      have hg2 := row_lt ht2
      have c5 : w2.cell? ⟨wr.heap.size, 0, none⟩ = some (.int .i64 z) := row_cell ht2 0
      have c6 : w2.cell? ⟨wr.heap.size, 1, none⟩ = some (.string (S s)) := row_cell ht2 1
      have hown2 := own_below hown (own_under hown) b2'
      cases h2 : (z == 2 || z == 3)
      · have h23 : ¬ (z = 2 ∨ z = 3) := by intro h; rcases h with h | h <;> subst h <;> simp at h2
        cases h1 : (z == 1)
        · have HN := Lib.hid (hsn.out.trans (show Mx.wstep (ws, o) (z, s) = (ws, o) by rw [Mx.wstep, if_neg h23, if_neg (by simpa using h1)]))
          go_wp2_with fail
          (with_reducible refine (of1_any (z, s) 1 _ _ rfl).mono ?_); rintro e w3 ⟨rfl, b3⟩
          clear c5 c6
          have ht3 := (b3.block wr.heap.size hg2).trans ht2
          have bw3 := bw2.trans (b3.mono bw2.size)
          have hs3 := b3.size
          have c5 : w3.cell? ⟨wr.heap.size, 0, none⟩ = some (.int .i64 z) := row_cell ht3 0
          have c6 : w3.cell? ⟨wr.heap.size, 1, none⟩ = some (.string (S s)) := row_cell ht3 1
          have hown3 := own_below hown2 (own_under hown2) b3
          rw [h1]
          go_wp2_with fail
          (with_reducible refine (of1_any (z, s) 1 _ _ rfl).mono ?_); rintro e w4 ⟨rfl, b4⟩
          clear c5 c6
          have ht4 := (b4.block wr.heap.size (row_lt ht3)).trans ht3
          have bw4 := bw3.trans (b4.mono bw3.size)
          have hs4 := b4.size
          have c5 : w4.cell? ⟨wr.heap.size, 0, none⟩ = some (.int .i64 z) := row_cell ht4 0
          have c6 : w4.cell? ⟨wr.heap.size, 1, none⟩ = some (.string (S s)) := row_cell ht4 1
          have hown4 := own_below hown3 (own_under hown3) b4
          rw [h1]
          go_wp2_with fail
          go_roundw
          case rel => exact ⟨k + 1, ws, o, by omega, by go_num, rfl, HN, hown4, bw4⟩
          case measure => simp [intOf]; omega
        · have hz : z = 1 := by simpa using h1
          subst hz
          cases o
          · have HN := Lib.hid (hsn.out.trans (show Mx.wstep (ws, false) (1, s) = (ws ++ [s], true) from rfl))
            go_wp2_with fail
            (with_reducible refine (of1_any (1, s) 1 _ _ rfl).mono ?_); rintro e w3 ⟨rfl, b3⟩
            clear c5 c6
            have ht3 := (b3.block wr.heap.size hg2).trans ht2
            have bw3 := bw2.trans (b3.mono bw2.size)
            have hs3 := b3.size
            have c5 : w3.cell? ⟨wr.heap.size, 0, none⟩ = some (.int .i64 1) := row_cell ht3 0
            have c6 : w3.cell? ⟨wr.heap.size, 1, none⟩ = some (.string (S s)) := row_cell ht3 1
            have hown3 := own_below hown2 (own_under hown2) b3
            rw [h1]
            go_wp2_with fail
            (with_reducible refine (of1_any (1, s) 1 _ _ rfl).mono ?_); rintro e w4 ⟨rfl, b4⟩
            clear c5 c6
            have ht4 := (b4.block wr.heap.size (row_lt ht3)).trans ht3
            have bw4 := bw3.trans (b4.mono bw3.size)
            have hs4 := b4.size
            have c5 : w4.cell? ⟨wr.heap.size, 0, none⟩ = some (.int .i64 1) := row_cell ht4 0
            have c6 : w4.cell? ⟨wr.heap.size, 1, none⟩ = some (.string (S s)) := row_cell ht4 1
            have hown4 := own_below hown3 (own_under hown3) b4
            rw [h1]
            go_wp2_with (at_builtin; refine wp_app tyStr rfl _ _ rfl w.heap.size hown4 rfl rfl (by simp) rfl str_one (by omega) (by omega) (by omega) ?_; intro v5 w5 hown5 b5 _)
            go_roundw
            case rel => exact ⟨k + 1, ws ++ [s], true, by omega, by go_num, rfl, HN, (by rw [scs_snoc, List.length_append]; exact hown5), bw4.trans b5⟩
            case measure => simp [intOf]; omega
          · rcases List.eq_nil_or_concat ws with rfl | ⟨ws0, y, rfl⟩
            · exact absurd rfl (HNE.out rfl)
            · rw [List.concat_eq_append] at *
              have HN := Lib.hid (hsn.out.trans (show Mx.wstep (ws0 ++ [y], true) (1, s) = (ws0 ++ [y ++ s], true) by simp [Mx.wstep]))
              go_wp2_with fail
              (with_reducible refine (of1_any (1, s) 1 _ _ rfl).mono ?_); rintro e w3 ⟨rfl, b3⟩
              clear c5 c6
              have ht3 := (b3.block wr.heap.size hg2).trans ht2
              have bw3 := bw2.trans (b3.mono bw2.size)
              have hs3 := b3.size
              have c5 : w3.cell? ⟨wr.heap.size, 0, none⟩ = some (.int .i64 1) := row_cell ht3 0
              have c6 : w3.cell? ⟨wr.heap.size, 1, none⟩ = some (.string (S s)) := row_cell ht3 1
              have hown3 := own_below hown2 (own_under hown2) b3
              rw [h1]
              rcases hown3.2 with ⟨_, h0⟩ | ⟨g, cap, cur, hv, hgw, _⟩
              · simp at h0
              · have hle : (ws0 ++ [y]).length = ws0.length + 1 := by simp
                rw [hle] at hv hown3
                subst hv
                have hfr := own_free hown3 ws0.length
                have hcell : w3.cell? ⟨g, ws0.length, none⟩ = some (.string (S y)) := own_at hown3 (by simp [scs])
                have hset := own_set hown3 ws0.length (.string (S (y ++ s)))
                have bset := bw3.setCell (p := ⟨g, ws0.length, none⟩) hgw (.string (S (y ++ s)))
                have hw1 : IntKind.i64.wrap ((ws0.length : Int) + 1 - 1) = (ws0.length : Int) := (Go.IntWalk.i64_left _).trans ((Go.IntWalk.wrap64_in _ (by omega)).trans (by omega))
                have hi1 : (ws0.length : Int) < (ws0.length : Int) + 1 := by omega
                have hyl : y.length ≤ 200000000 := by
                  have e := Mx.join_grow ws0 [] y
                  rw [List.nil_append] at e
                  rw [e, List.length_append] at hj3
                  omega
                have hsum : y.length + s.length ≤ 9223372036854775807 := by omega
                clear hown hown2 hown3 hj3
                go_wp2_with fail
                go_region
                go_wp2_with fail
                go_roundw
                case rel => exact ⟨k + 1, ws0 ++ [y ++ s], true, by omega, by go_num, rfl, HN, own_drewN (m := 1) (by
                  have e1 : (scs (ws0 ++ [y])).set ws0.length (.string (S (y ++ s))) = scs (ws0 ++ [y ++ s]) := by
                    have : (scs ws0).length = ws0.length := scs_length _
                    rw [scs_snoc, scs_snoc, ← this, List.set_append_right _ _ (Nat.le_refl _), Nat.sub_self]; rfl
                  rw [e1] at hset
                  rw [show (ws0 ++ [y ++ s]).length = ws0.length + 1 by simp]
                  exact hset), below_drewN bset 1⟩
                case measure => simp [intOf]; omega
      · have h23 : z = 2 ∨ z = 3 := by cases ha : (z == 2) <;> cases hb : (z == 3) <;> simp [ha, hb] at h2 ⊢ <;> simp at ha hb <;> omega
        have HN := Lib.hid (hsn.out.trans (show Mx.wstep (ws, o) (z, s) = (ws, false) from if_pos h23))
        go_wp2_with fail
        go_roundw
        case rel => exact ⟨k + 1, ws, false, by omega, by go_num, rfl, HN, hown2, bw2⟩
        case measure => simp [intOf]; omega
    · obtain rfl : k = l.length := by omega
      have HJ := Lib.hid (show Mx.sqz (Lib.join ws [32]) = Mx.flatOf l by
        have := Mx.words_flat l
        have h2 := HC.out
        rw [List.take_length] at h2
        rw [h2] at this; exact this)
      have hjb : (Lib.join ws [32]).length ≤ 1000000000 := by have := hjl.2.2; simp at this; omega
      clear hjl
      go_wp2_with fail
      refine Calls.mono (R := fun e w' => e = .returned (.string (S (Lib.join ws [32]))) ∧ Below wr.heap.size wr w') ?_ ?_
      · rcases hown.2 with ⟨hv, h0⟩ | ⟨g, cap, cur, hv, hgw, hgr, hnc, _⟩
        · have hws : ws = [] := List.eq_nil_of_length_eq_zero h0
          subst hws
          subst hv
          exact (Try.strings_Join_none none 0 (S [32]) wr).mono fun e w' ⟨h1, h2⟩ => ⟨h1, by rw [h2]; exact Below.refl _ _⟩
        · subst hv
          have := Try.strings_Join g 0 cap (ws.map S) (S [32]) wr (fun j x hx => by
            rw [Nat.zero_add]
            refine own_at hown ?_
            rw [List.getElem?_map] at hx
            obtain ⟨y, hy, rfl⟩ := Option.map_eq_some_iff.1 hx
            simp [scs, hy]) (row_lt hgr) (by simp; omega) (by simpa using hnc) (by
            have e : (ws.map S).map (fun x : ByteArray => x.data.toList) = ws := by rw [List.map_map]; conv => rhs; rw [← List.map_id ws]
                                                                                    rfl
            rw [e]; simp only [S_dataList]; omega)
          have e : (ws.map S).map (fun x : ByteArray => x.data.toList) = ws := by rw [List.map_map]; conv => rhs; rw [← List.map_id ws]
                                                                                  rfl
          rw [e, S_dataList, List.length_map] at this
          exact this
      · rintro e w3 ⟨rfl, b3⟩
        go_wp2_with fail
        (with_reducible refine (squeezed_any _ hjb _).mono ?_); rintro e w4 ⟨rfl, b4⟩
        rw [HJ.out]
        go_wp2_with fail
        go_ret
        exact ⟨rfl, (hbw.trans (b3.mono hsz)).trans (b4.mono (by have := b3.size; omega))⟩

end Go.Proofs.Ytkpdhpbnbpjceaa
