
/- 'MacroWithin', walked: it answers true at every input. No condition. -/
import Derived.Test.YtkpdhpbnbpjceaaMacLawA
import Derived.Test.YtkpdhpbnbpjceaaMacBal
import Derived.StillTailTactics
namespace Go.Proofs.Ytkpdhpbnbpjceaa
open Go.RowKit

/-- u lies where x does not. -/
def Sep (w : World) (x u : Value) : Prop := ∀ b, u.ownBlock = some b → b < w.heap.size ∧ x.ownBlock ≠ some b
theorem Sep.near {w w' : World} {x x' u : Value} (h : Sep w x u) (hn : Near w x x') (hs : w.heap.size ≤ w'.heap.size) : Sep w' x' u := by
  intro b hb
  refine ⟨Nat.lt_of_lt_of_le (h b hb).1 hs, fun e => ?_⟩
  rcases hn with h2 | ⟨g, h2, hle⟩
  · exact (h b hb).2 (h2.symm.trans e)
  · rw [h2] at e; injection e with e; have := (h b hb).1; omega
theorem Sep.later {w w' : World} {x u : Value} (h : Sep w x u) (hs : w.heap.size ≤ w'.heap.size) : Sep w' x u := fun b hb => ⟨Nat.lt_of_lt_of_le (h b hb).1 hs, (h b hb).2⟩

/-- A list of lists that the call owns, and a row x elsewhere. -/
def OllX (w : World) (B : Nat) (T : TypeId) (v : Value) (ls : List (List Lx.Tok)) (x : Value) : Prop :=
  ∃ vs : List Value, w.ownsRow B T 1 v ls.length vs ∧ Sep w x v ∧ ∀ (i : Nat) (u : Value) (l : List Lx.Tok), vs[i]? = some u → ls[i]? = some l → Rt w u l ∧ Sep w v u ∧ Sep w x u

theorem OllX.rts {w : World} {B : Nat} {T : TypeId} {v x : Value} {ls : List (List Lx.Tok)} (h : OllX w B T v ls x) : Rts w v ls := by
  obtain ⟨vs, h1, _, h2⟩ := h
  exact ⟨vs, own_rd h1, fun i u l hu hl => (h2 i u l hu hl).1⟩
theorem OllX.sep {w : World} {B : Nat} {T : TypeId} {v x : Value} {ls : List (List Lx.Tok)} (h : OllX w B T v ls x) : Sep w x v := by
  obtain ⟨_, _, h1, _⟩ := h
  exact h1
theorem OllX.under {w : World} {B : Nat} {T : TypeId} {v x : Value} {ls : List (List Lx.Tok)} (h : OllX w B T v ls x) : Under w.heap.size v := by
  obtain ⟨_, h1, _⟩ := h
  exact own_under h1
theorem OllX.shape {w : World} {B : Nat} {T : TypeId} {v x : Value} {ls : List (List Lx.Tok)} (h : OllX w B T v ls x) : ∃ a c, v = .slice a ls.length c := by
  obtain ⟨_, h1, _⟩ := h
  exact own_shape h1
theorem OllX.below' {w w' : World} {B : Nat} {T : TypeId} {v x : Value} {ls : List (List Lx.Tok)} (h : OllX w B T v ls x) (hb : Below w.heap.size w w') : OllX w' B T v ls x := by
  obtain ⟨vs, h1, h2, h3⟩ := h
  exact ⟨vs, own_below h1 (own_under h1) hb, h2.later hb.size, fun i u l hu hl => ⟨(h3 i u l hu hl).1.below' hb, (h3 i u l hu hl).2.1.later hb.size, (h3 i u l hu hl).2.2.later hb.size⟩⟩
/-- x has grown. -/
theorem OllX.grown {w w' : World} {B : Nat} {T : TypeId} {v x x' : Value} {ls : List (List Lx.Tok)} (h : OllX w B T v ls x) (hg : w.grownBy w' x.ownBlock) (hn : Near w x x') : OllX w' B T v ls x' := by
  obtain ⟨vs, h1, h2, h3⟩ := h
  refine ⟨vs, h1.kept hg ?_, h2.near hn hg.size, fun i u l hu hl => ⟨Rd.grown (h3 i u l hu hl).1 hg fun b hb e => ((h3 i u l hu hl).2.2 b hb).2 e.symm, (h3 i u l hu hl).2.1.later hg.size, (h3 i u l hu hl).2.2.near hn hg.size⟩⟩
  cases hv : v.ownBlock with
  | none => exact .inl rfl
  | some b => exact .inr fun e => (h2 b hv).2 e.symm

section
variable {P : Program} {ops : Array Oper} {rest : List Oper} {o : Oper} {a : Act} {Q : Exit → Act → World → Prop} {w1 : World}
/-- 'v = append(v, u)': u a list. -/
theorem wp_ollx {t e bytes : Nat} {v u x : Value} {ls : List (List Lx.Tok)} {l : List Lx.Tok} (T : SlTy P t e 1 bytes) (hgd : o.guard = none) (s y : Operand) (ho : o.op = .call { callee := .builtin .append, args := #[s, y], argTypes := #[t, t] })
    (B : Nat) (hown : OllX w1 B e v ls x) (hx0 : Under w1.heap.size x) (hu : Rt w1 u l) (hsv : Sep w1 v u) (hsx : Sep w1 x u) (hs : a.eval s = v) {g : Nat} (hx : a.eval y = .slice (some ⟨g, 0, none⟩) 1 1) (hg : g = w1.heap.size)
    (hone : u.oneCell' = true) (hlen : (ls.length + 1) * bytes ≤ 140737488355328) (hlen2 : ls.length ≤ 1000000000000000) (hB : B ≤ w1.heap.size)
    (h : ∀ v' w', OllX w' B e v' (ls ++ [l]) x → Below B w1 w' → w1.grownBy w' v.ownBlock → wpList P ops Q rest (a.put o.dst v') w') :
    wpList P ops Q (o :: rest) a (w1.alloc (.cells #[u] e)) := by
  obtain ⟨vs, h1, h2, h3⟩ := hown
  have hvl : vs.length = ls.length := by rw [h1.1, Nat.mul_one]
  refine wp_app2 (news := [u]) T hgd s y ho B h1 hs hx hg rfl (by simpa using hone) hlen hlen2 hB fun v' w' hown' hbel hgr hnear => h v' w' ⟨vs ++ [u], by simpa using hown', ?_, ?_⟩ hbel hgr
  · intro b hb
    rcases hnear with h4 | ⟨g', h4, hle⟩
    · rw [h4] at hb
      exact ⟨Nat.lt_of_lt_of_le (h2 b hb).1 hgr.size, (h2 b hb).2⟩
    · have e : g' = b := by rw [h4] at hb; injection hb
      refine ⟨(hown'.lt b hb).2, fun e2 => ?_⟩
      have := hx0 b e2
      omega
  intro i u' l' hu' hl'
  have key : ∀ (u0 : Value) (l0 : List Lx.Tok), Rt w1 u0 l0 → Sep w1 v u0 → Sep w1 x u0 → Rt w' u0 l0 ∧ Sep w' v' u0 ∧ Sep w' x u0 := by
    intro u0 l0 hr hs0 hs1
    exact ⟨Rd.grown hr hgr fun b hb e => (hs0 b hb).2 e.symm, hs0.near hnear hgr.size, hs1.later hgr.size⟩
  by_cases hi : i < vs.length
  · rw [List.getElem?_append_left hi] at hu'
    rw [List.getElem?_append_left (by omega)] at hl'
    exact key u' l' (h3 i u' l' hu' hl').1 (h3 i u' l' hu' hl').2.1 (h3 i u' l' hu' hl').2.2
  · rw [List.getElem?_append_right (by omega)] at hu'
    rw [List.getElem?_append_right (by omega)] at hl'
    have e1 : i - vs.length = 0 := by
      have := (List.getElem?_eq_some_iff.1 hu').1
      simpa using this
    have e2 : i - ls.length = 0 := by omega
    rw [e1] at hu'
    rw [e2] at hl'
    simp at hu' hl'
    subst hu'
    subst hl'
    exact key u l hu hsv hsx
end

theorem text_at {w : World} {a : Option Addr} {n c : Nat} {ls : List (List UInt8)} (h : Rd w 1 (.slice a n c) ls.length (ls.map fun s => Value.string (S s))) {i : Nat} (hi : i < ls.length) : ∃ b o, a = some ⟨b, o, none⟩ ∧ w.cell? ⟨b, o + i, none⟩ = some (.string (S ls[i])) := by
  rcases h.2 with ⟨_, h2⟩ | ⟨b, o, cap, hv, hlt, hc, _⟩
  · omega
  · cases hv
    exact ⟨b, o, rfl, hc i _ (by simp [hi])⟩
theorem take_minW {α : Type} (l : List α) (n : Nat) : l.take (min (l.length : Int) (n : Int)).toNat = l.take n := by
  have e : (min (l.length : Int) (n : Int)).toNat = min l.length n := by omega
  rw [e]
  rcases Nat.le_total l.length n with h | h
  · rw [Nat.min_eq_left h, List.take_length, List.take_of_length_le h]
  · rw [Nat.min_eq_right (by omega)]

theorem lexF_len' (n : Nat) : ∀ s : List UInt8, (Lx.lexF n s).length ≤ s.length := by
  induction n with
  | zero => intro s; simp [Lx.lexF]
  | succ n ih =>
    intro s
    cases s with
    | nil => simp [Lx.lexF]
    | cons c r =>
      have := ih (Lx.one (c :: r)).2
      have := Lx.one_lt c r
      simp [Lx.lexF]; omega
theorem lex_len' (s : List UInt8) : (Lx.lex s).length ≤ s.length := lexF_len' _ s

theorem cat_len (ws : List (List Lx.Tok)) (h : ∀ x ∈ ws, x.length ≤ 40) : ∀ i, (Mx.cat i ws).length ≤ ws.length * 43 := by
  induction ws with
  | nil => intro i; simp [Mx.cat]
  | cons x r ih =>
    intro i
    have h1 := h x (by simp)
    have h2 := ih (fun y hy => h y (by simp [hy])) (i + 1)
    have h3 : (Mx.wrap i x).length ≤ x.length + 3 := by
      unfold Mx.wrap; split <;> simp
    rw [Mx.cat, List.length_append, List.length_cons, Nat.succ_mul]; omega

set_option maxRecDepth 20000 in
set_option maxHeartbeats 4000000 in
/-- 'MacroWithin'. -/
theorem macroWithin_any (v : Value) (ls : List (List UInt8)) (w : World) (hl : Rd w 1 v ls.length (ls.map fun s => Value.string (S s))) :
    Calls Try.prog 6 #[v] w fun e w' => e = .returned (.bool true) ∧ Below w.heap.size w w' := by
  obtain ⟨a0, c0, rfl⟩ := hl.shape
  have HL := Lib.hid hl
  clear hl
  go_enter Try.func6, Try.ntmps6
  go_wp2_with fail
  go_loopw [3, 4, 5] (fun va vw i wr => ∃ (k : Nat) (ws : List (List Lx.Tok)), k ≤ ls.length ∧ k ≤ 9 ∧ i = .int .i64 k ∧ Hid (ws.length = k) ∧ Hid (∀ x ∈ ws, Mx.bal 0 x = some 0) ∧ Hid (∀ x ∈ ws, x.length ≤ 40) ∧ wr.ownsRow w.heap.size 41 2 va (Mx.cat 0 ws).length (tcs (Mx.cat 0 ws)) ∧ OllX wr w.heap.size 22 vw ws va ∧ Below w.heap.size w wr) (fun _ _ i _ => ls.length - (intOf i).toNat)
  case atStart =>
    refine ⟨0, [], Nat.zero_le _, Nat.zero_le _, rfl, rfl, (fun x hx => by cases hx), (fun x hx => by cases hx), ?_, ?_, ?_⟩
    · exact (World.ownsRow_made w #[] 0 (Nat.le_refl _) (by decide) rfl).alloc _
    · have h0 := World.ownsRow_made (base := w.heap.size) (e := 22) (size := 1) (w.alloc (.cells #[] 41)) #[] 0 (by simp) (by decide) rfl
      rw [World.size_alloc] at h0
      refine ⟨[], h0, fun b hb => ?_, by simp⟩
      have e : w.heap.size + 1 = b := by simpa [Value.ownBlock] using hb
      refine ⟨by simp; omega, fun e2 => ?_⟩
      have e2 : w.heap.size = b := by simpa [Value.ownBlock] using e2
      omega
    · exact ((Below.refl _ _).alloc (Nat.le_refl _) _).alloc (by simp) _
  case round =>
    obtain ⟨k, ws, hk, hk9, rfl, HWL, HWB, HWE, hown, hX, hbw⟩ := hrel
    have hsz := hbw.size
    have hcl := cat_len ws HWE.out 0
    rw [HWL.out] at hcl
    by_cases hlt : k < ls.length ∧ k < 9
    · obtain ⟨hlt, hlt9⟩ := hlt
      have hlt9i : (k : Int) < 9 := by omega
      obtain ⟨b1, o1, rfl, c1⟩ := text_at (HL.out.below' hbw) hlt
      have htk := take_minW ls[k] 40
      simp only [Int.cast_ofNat_Int] at htk
      obtain ⟨s, hs⟩ : ∃ s, s = ls[k] := ⟨_, rfl⟩
      rw [← hs] at c1 htk
      clear hs
      have hil : (k : Int) < (ls.length : Int) := by omega
      have hm1 : (0 : Int) ≤ min (s.length : Int) 40 := by omega
      have hm2 : min (s.length : Int) 40 ≤ (s.length : Int) := by omega
      go_wp2_with fail
      go_still_tail 11, (by kernel_rfl)
      have bd : Below wr.heap.size wr wr.drew := below_drewN (Below.refl _ _) 1
      obtain ⟨w2, hw2⟩ : ∃ w2, w2 = wr.drew := ⟨_, rfl⟩
      change wpList _ _ _ _ _ wr.drew
      rw [← hw2] at bd ⊢
      clear hw2
      have hown2 := own_below hown (own_under hown) bd
      have hX2 := hX.below' bd
      have bw2 := hbw.trans (bd.mono hsz)
      have hs2 := bd.size
      have hun2 := own_under hown2
      clear bd hown hX
      go_wp2_with fail
      (with_reducible refine (lex_any _ (by simp; omega) w2).mono ?_); rintro e w3 ⟨vi, rfl, oi, b3⟩
      have hil2 : (Lx.lex (s.take 40)).length ≤ 40 := by have := lex_len' (s.take 40); simp at this; omega
      obtain ⟨ins, hins⟩ : ∃ ins, ins = Lx.lex (s.take 40) := ⟨_, rfl⟩
      rw [← hins] at oi hil2
      clear hins
      have hown3 := own_below hown2 hun2 b3
      have hX3 := hX2.below' b3
      have bw3 := bw2.trans (b3.mono (by omega : w.heap.size ≤ w2.heap.size))
      have hs3 := b3.size
      have hsx : Sep w3 u3 vi := fun b hb => ⟨(oi.lt b hb).2, fun e => by have h1 := hun2 b e; have h2 := (oi.lt b hb).1; omega⟩
      have hsv : Sep w3 u4 vi := fun b hb => ⟨(oi.lt b hb).2, fun e => by have h1 := hX2.under b e; have h2 := (oi.lt b hb).1; omega⟩
      have ri := rt_of_own' oi
      obtain ⟨ai, ci, rfl⟩ := own_shape oi
      clear hown2 hX2 bw2 hun2 b3 oi hm1 hm2 htk c1
      have RI := Lib.hid ri
      have HO3 := Lib.hid hown3
      have HX3 := Lib.hid hX3
      have HB3 := Lib.hid bw3
      have HSX := Lib.hid hsx
      have HSV := Lib.hid hsv
      clear ri hown3 hX3 bw3 hsx hsv
      go_wp2_with fail
      go_loopw [7, 8] (fun dp i wr2 => ∃ j d : Nat, j ≤ ins.length ∧ d ≤ j ∧ i = .int .i64 j ∧ dp = .int .i64 d ∧ Hid (Mx.bal 0 (ins.take j) = some d) ∧ wr2 = w3) (fun _ i _ => ins.length - (intOf i).toNat)
      case atStart => exact ⟨0, 0, Nat.zero_le _, Nat.le_refl _, rfl, rfl, rfl, rfl⟩
      case round =>
        obtain ⟨j, d, hj, hdj, rfl, rfl, HB, rfl⟩ := hrel
        by_cases hjl : j < ins.length
        · obtain ⟨b2, o2, hb2, c20, c21⟩ := RI.out.at hjl
          subst hb2
          obtain ⟨⟨z, t⟩, hzt⟩ : ∃ x, x = ins[j] := ⟨_, rfl⟩
          have hbs := Mx.bal_snoc (ins.take j) ins[j] 0
          rw [← take_snoc ins j hjl, HB.out] at hbs
          rw [← hzt] at c20 c21 hbs
          have hbs : Mx.bal 0 (ins.take (j + 1)) = Mx.stepB d (z, t) := hbs
          clear hzt
          cases h5 : (z == 5)
          · cases h6 : (z == 6)
            · have HN := Lib.hid (hbs.trans (show _ = some d by unfold Mx.stepB; rw [if_neg (by simpa using h5), if_neg (by simpa using h6)]))
              have hd0 : decide ((d : Int) < 0) = false := by simp
              clear hbs
              go_wp2_with fail
              go_roundw
              case rel => exact ⟨j + 1, d, by omega, by omega, by go_num, rfl, HN, trivial⟩
              case measure => simp [intOf]; omega
            · have h6z : z = 6 := by simpa using h6
              subst h6z
              cases d with
              | zero =>
                clear hbs
                go_wp2_with fail
                (with_reducible refine (macFixed_any _).mono ?_); rintro e w4 ⟨rfl, b4⟩
                go_wp2_with fail
                go_ret
                exact ⟨rfl, HB3.out.trans (b4.mono HB3.out.size)⟩
              | succ d =>
                have HN := Lib.hid (hbs.trans (show _ = some d by unfold Mx.stepB; rw [if_neg (by simp), if_pos rfl]; simp))
                have hd0 : decide ((d : Int) < 0) = false := by simp
                clear hbs
                go_wp2_with fail
                go_roundw
                case rel => exact ⟨j + 1, d, by omega, by omega, by go_num, by go_num, HN, trivial⟩
                case measure => simp [intOf]; omega
          · have h5z : z = 5 := by simpa using h5
            subst h5z
            have HN := Lib.hid (hbs.trans (show _ = some (d + 1) by unfold Mx.stepB; rw [if_pos rfl]))
            have hd0 : decide ((d : Int) + 1 < 0) = false := by simp; omega
            clear hbs
            go_wp2_with fail
            go_roundw
            case rel => exact ⟨j + 1, d + 1, by omega, by omega, by go_num, by go_num, HN, trivial⟩
            case measure => simp [intOf]; omega
        · obtain rfl : j = ins.length := by omega
          have hbal := HB.out
          rw [List.take_length] at hbal
          cases d with
          | succ d =>
            have hd0 : (((d : Int) + 1) != 0) = true := by simp [bne]; omega
            clear hbal
            go_wp2_with fail
            (with_reducible refine (macFixed_any _).mono ?_); rintro e w4 ⟨rfl, b4⟩
            go_wp2_with fail
            go_ret
            exact ⟨rfl, HB3.out.trans (b4.mono HB3.out.size)⟩
          | zero =>
            have HBAL := Lib.hid hbal
            clear hbal
            have hal : (Mx.cat 0 ws).length ≤ 400 := by omega
            have hs03 : w.heap.size ≤ wr.heap.size := HB3.out.size
            have HBIG1 := Lib.hid (show (ws.length + 1) * 24 ≤ 140737488355328 by rw [HWL.out]; omega)
            have HBIG2 := Lib.hid (show ws.length ≤ 1000000000000000 by rw [HWL.out]; omega)
            cases hp : ((k : Int) % 2 == 0)
            · have hpk0 : ¬ (k % 2 = 0) := by have : ¬ ((k : Int) % 2 = 0) := by simpa using hp
                                              omega
              have HPK := Lib.hid hpk0
              clear hpk0
              go_wp2_with (first
                | (have q := HO3; clear q; at_builtin; refine wp_app2 tyTok rfl _ _ rfl w.heap.size HO3.out rfl rfl rfl rfl tc_one (by omega) (by omega) hs03 ?_; intro v4 w4 o4 b4 g4 n4; have x4 := HX3.out.grown g4 n4; have i4 : Rt w4 _ ins := Rd.grown RI.out g4 (fun b hb e => (HSX.out b hb).2 e.symm); have sx4 := HSX.out.near n4 g4.size; have sv4 := HSV.out.later g4.size; have hs4 : w.heap.size ≤ w4.heap.size := (by have := g4.size; omega); clear HO3)
                | (have q := o4; clear q; at_builtin; refine wp_app_all2 tyTok rfl _ _ rfl w.heap.size o4 i4 rfl rfl tcs_one (by omega) (by omega) hs4 ?_; intro v5 w5 o5 b5 g5 n5; have x5 := x4.grown g5 n5; have i5 : Rt w5 _ ins := Rd.grown i4 g5 (fun b hb e => (sx4 b hb).2 e.symm); have sx5 := sx4.near n5 g5.size; have sv5 := sv4.later g5.size; have hs5 : w.heap.size ≤ w5.heap.size := (by have := g5.size; omega); clear o4 x4 i4 sx4 sv4)
                | (have q := o5; clear q; at_builtin; refine wp_app2 tyTok rfl _ _ rfl w.heap.size o5 rfl rfl rfl rfl tc_one (by omega) (by omega) hs5 ?_; intro v6 w6 o6 b6 g6 n6; have x6 := x5.grown g6 n6; have i6 : Rt w6 _ ins := Rd.grown i5 g6 (fun b hb e => (sx5 b hb).2 e.symm); have sx6 := sx5.near n6 g6.size; have sv6 := sv5.later g6.size; have hs6 : w.heap.size ≤ w6.heap.size := (by have := g6.size; omega); clear o5 x5 i5 sx5 sv5)
                | (have q := x6; clear q; at_builtin; go_loud (refine wp_ollx tyLl rfl _ _ rfl w.heap.size x6 (own_under o6) i6 sv6 sx6 rfl rfl rfl rfl HBIG1.out HBIG2.out hs6 ?_); intro v8 w8 x8 b8 g8))
              have o8 := o6.kept g8 (by
                cases hv : v6.ownBlock with
                | none => exact .inl rfl
                | some b => exact .inr fun e => (x6.sep b e.symm).2 hv)
              have e1 : Mx.cat 0 (ws ++ [ins]) = Mx.cat 0 ws ++ [(5, [])] ++ ins ++ [(6, [])] := by
                rw [Mx.cat_snoc, Nat.zero_add, HWL.out, Mx.wrap, if_neg HPK.out]; simp
              have e2 : tcs (Mx.cat 0 ws) ++ [.int .i64 5, .string (S [])] ++ tcs ins ++ [.int .i64 6, .string (S [])] = tcs (Mx.cat 0 (ws ++ [ins])) := by
                rw [e1]; simp only [tcs_append]; rfl
              have e3 : (Mx.cat 0 ws).length + 1 + ins.length + 1 = (Mx.cat 0 (ws ++ [ins])).length := by rw [e1]; simp; omega
              rw [e2, e3] at o8
              have HBW := Lib.hid (((((HB3.out.trans b4).trans b5).trans b6)).trans b8)
              have HO8 := Lib.hid o8
              have HX8 := Lib.hid x8
              clear o8 x8 e1 e2 e3
              go_roundw
              case rel => exact ⟨k + 1, ws ++ [ins], by omega, by omega, by go_num, Lib.hid (by simp [HWL.out]), Lib.hid (by
                intro x hx
                rcases List.mem_append.1 hx with hx | hx
                · exact HWB.out x hx
                · simp at hx; subst hx; exact HBAL.out), Lib.hid (by
                intro x hx
                rcases List.mem_append.1 hx with hx | hx
                · exact HWE.out x hx
                · simp at hx; subst hx; exact hil2), HO8.out, HX8.out, HBW.out⟩
              case measure => simp [intOf]; omega
            · have hpk0 : k % 2 = 0 := by have : (k : Int) % 2 = 0 := by simpa using hp
                                          omega
              have HPK := Lib.hid hpk0
              clear hpk0
              go_wp2_with (first
                | (have q := HO3; clear q; at_builtin; refine wp_app2 tyTok rfl _ _ rfl w.heap.size HO3.out rfl rfl rfl rfl tc_one (by omega) (by omega) hs03 ?_; intro v4 w4 o4 b4 g4 n4; have x4 := HX3.out.grown g4 n4; have i4 : Rt w4 _ ins := Rd.grown RI.out g4 (fun b hb e => (HSX.out b hb).2 e.symm); have sx4 := HSX.out.near n4 g4.size; have sv4 := HSV.out.later g4.size; have hs4 : w.heap.size ≤ w4.heap.size := (by have := g4.size; omega); clear HO3)
                | (have q := o4; clear q; at_builtin; refine wp_app_all2 tyTok rfl _ _ rfl w.heap.size o4 i4 rfl rfl tcs_one (by omega) (by omega) hs4 ?_; intro v5 w5 o5 b5 g5 n5; have x5 := x4.grown g5 n5; have i5 : Rt w5 _ ins := Rd.grown i4 g5 (fun b hb e => (sx4 b hb).2 e.symm); have sx5 := sx4.near n5 g5.size; have sv5 := sv4.later g5.size; have hs5 : w.heap.size ≤ w5.heap.size := (by have := g5.size; omega); clear o4 x4 i4 sx4 sv4)
                | (have q := o5; clear q; at_builtin; refine wp_app2 tyTok rfl _ _ rfl w.heap.size o5 rfl rfl rfl rfl tc_one (by omega) (by omega) hs5 ?_; intro v6 w6 o6 b6 g6 n6; have x6 := x5.grown g6 n6; have i6 : Rt w6 _ ins := Rd.grown i5 g6 (fun b hb e => (sx5 b hb).2 e.symm); have sx6 := sx5.near n6 g6.size; have sv6 := sv5.later g6.size; have hs6 : w.heap.size ≤ w6.heap.size := (by have := g6.size; omega); clear o5 x5 i5 sx5 sv5)
                | (have q := o6; clear q; at_builtin; refine wp_app2 tyTok rfl _ _ rfl w.heap.size o6 rfl rfl rfl rfl tc_one (by omega) (by omega) hs6 ?_; intro v7 w7 o7 b7 g7 n7; have x7 := x6.grown g7 n7; have i7 : Rt w7 _ ins := Rd.grown i6 g7 (fun b hb e => (sx6 b hb).2 e.symm); have sx7 := sx6.near n7 g7.size; have sv7 := sv6.later g7.size; have hs7 : w.heap.size ≤ w7.heap.size := (by have := g7.size; omega); clear o6 x6 i6 sx6 sv6)
                | (have q := x7; clear q; at_builtin; go_loud (refine wp_ollx tyLl rfl _ _ rfl w.heap.size x7 (own_under o7) i7 sv7 sx7 rfl rfl rfl rfl HBIG1.out HBIG2.out hs7 ?_); intro v8 w8 x8 b8 g8))
              have o8 := o7.kept g8 (by
                cases hv : v7.ownBlock with
                | none => exact .inl rfl
                | some b => exact .inr fun e => (x7.sep b e.symm).2 hv)
              have e1 : Mx.cat 0 (ws ++ [ins]) = Mx.cat 0 ws ++ [(5, [])] ++ ins ++ [(6, [])] ++ [(2, [])] := by
                rw [Mx.cat_snoc, Nat.zero_add, HWL.out, Mx.wrap, if_pos HPK.out]; simp
              have e2 : tcs (Mx.cat 0 ws) ++ [.int .i64 5, .string (S [])] ++ tcs ins ++ [.int .i64 6, .string (S [])] ++ [.int .i64 2, .string (S [])] = tcs (Mx.cat 0 (ws ++ [ins])) := by
                rw [e1]; simp only [tcs_append]; rfl
              have e3 : (Mx.cat 0 ws).length + 1 + ins.length + 1 + 1 = (Mx.cat 0 (ws ++ [ins])).length := by rw [e1]; simp; omega
              rw [e2, e3] at o8
              have HBW := Lib.hid (((((HB3.out.trans b4).trans b5).trans b6).trans b7).trans b8)
              have HO8 := Lib.hid o8
              have HX8 := Lib.hid x8
              clear o8 x8 e1 e2 e3
              go_roundw
              case rel => exact ⟨k + 1, ws ++ [ins], by omega, by omega, by go_num, Lib.hid (by simp [HWL.out]), Lib.hid (by
                intro x hx
                rcases List.mem_append.1 hx with hx | hx
                · exact HWB.out x hx
                · simp at hx; subst hx; exact HBAL.out), Lib.hid (by
                intro x hx
                rcases List.mem_append.1 hx with hx | hx
                · exact HWE.out x hx
                · simp at hx; subst hx; exact hil2), HO8.out, HX8.out, HBW.out⟩
              case measure => simp [intOf]; omega
    · have hcase : k = ls.length ∨ ((9 : Int) < (ls.length : Int) ∧ k = 9) := by
        by_cases h : k < ls.length
        · right; omega
        · left; omega
      have hcat := Mx.args_cat ws 0 [] (.inl rfl) HWB.out
      simp only [List.nil_append] at hcat
      obtain ⟨u, hu1, hu2, hu3, hu4⟩ := hcat
      obtain ⟨all, hall⟩ : ∃ all, all = Mx.cat 0 ws := ⟨_, rfl⟩
      rw [← hall] at hu1 hu2 hu3 hu4 hown hcl
      have hA1 := Lib.hid (show argsAt all 0 (k : Int) = (ws, (u : Int), 0) by
        unfold argsAt
        rw [if_neg (by omega)]
        have e : Mx.args (k : Int).toNat (all.drop (0 : Int).toNat) = some (ws, u) := by rw [← HWL.out]; exact hu1
        rw [e]; simp [ares])
      have hA2 := Lib.hid (show argsAt all (u : Int) 1 = ([], 0, 10) by
        unfold argsAt
        rw [if_neg (by omega)]
        have e : Mx.args (1 : Int).toNat (all.drop (u : Int).toNat) = none := hu4
        rw [e]; rfl)
      have hal : all.length ≤ 387 := by omega
      have HW9 := Lib.hid (show ws.length ≤ 1000000 by rw [HWL.out]; omega)
      clear hu1 hu4 hall hk hk9 hlt hcl
      have ra := rt_of_own' hown
      obtain ⟨aw, cw, hvw⟩ := hX.shape
      rw [HWL.out] at hvw
      have rw0 := hX.rts
      obtain ⟨aa, ca, rfl⟩ := own_shape hown
      have HX0 := Lib.hid rw0
      have HRA := Lib.hid ra
      have HHB := Lib.hid hbw
      clear hown hX rw0 ra hbw
      subst hvw
      have hto : decide ((u : Int) < (all.length : Int) - 1) = false := by simp; omega
      have hto2 : decide ((all.length : Int) < (u : Int)) = false := by simp; omega
      rcases hcase with rfl | ⟨hc, rfl⟩
      all_goals (
        have hA1x := hA1.out
        try simp only [Int.cast_ofNat_Int] at hA1x
        have HA1 := Lib.hid hA1x
        have hwl : ws.length ≤ 1000000 := HW9.out
        clear hA1x
        go_wp2_with fail
        (with_reducible refine (args_any _ _ 0 _ _ HRA.out (by omega)).mono ?_); rintro e w2 ⟨vx, rfl, rx, b2⟩
        rw [HA1.out] at rx ⊢
        have rx : Rts w2 vx ws := rx
        have ra2 := Rt.below' HRA.out b2
        have rw2 := Rts.below' HX0.out b2
        have B2 := HHB.out.trans (b2.mono hsz)
        go_wp2_with fail
        (with_reducible refine (args_any _ _ _ 1 _ ra2 (by omega)).mono ?_); rintro e w3 ⟨vy, rfl, _, b3⟩
        rw [hA2.out]
        have rx3 := Rts.below' rx b3
        have rw3 := Rts.below' rw2 b3
        have B3 := B2.trans (b3.mono B2.size)
        clear rx rw2 ra2 B2 b2 b3
        go_wp2_with fail
        all_goals (
          (with_reducible refine (lists_any _ _ _ rx3 hwl (fun y hy => by have := HWE.out y hy; omega)).mono ?_); rintro e w4 ⟨vz, rfl, oz, b4⟩
          have rz := oz.rts
          have rw4 := Rts.below' rw3 b4
          have B4 := B3.trans (b4.mono B3.size)
          clear rx3 rw3 oz b4 B3
          go_wp2_with fail
          (with_reducible refine (lists_any _ _ _ rw4 hwl (fun y hy => by have := HWE.out y hy; omega)).mono ?_); rintro e w5 ⟨va, rfl, oa, b5⟩
          have ra5 := oa.rts
          have rz5 := Rts.below' rz b5
          have B5 := B4.trans (b5.mono B4.size)
          clear rw4 rz oa b5 B4
          go_wp2_with fail
          (with_reducible refine (sameLists_any _ _ _ _ _ rz5 ra5 hwl hwl (fun y hy => by have := HWE.out y hy; omega) (fun y hy => by have := HWE.out y hy; omega)).mono ?_); rintro e w6 ⟨rfl, b6⟩
          rw [show (ws == ws) = true from by simp]
          have B6 := B5.trans (b6.mono B5.size)
          clear rz5 ra5 b6 B5
          go_wp2_with fail
          (with_reducible refine (macFixed_any _).mono ?_); rintro e w7 ⟨rfl, b7⟩
          go_wp2_with fail
          go_ret
          exact ⟨rfl, B6.trans (b7.mono B6.size)⟩))

end Go.Proofs.Ytkpdhpbnbpjceaa
