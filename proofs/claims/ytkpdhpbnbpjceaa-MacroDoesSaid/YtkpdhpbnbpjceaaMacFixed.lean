
/- The macro laws' fixed calls, walked. No condition. -/
import Derived.Test.YtkpdhpbnbpjceaaMacPut
import Derived.Test.YtkpdhpbnbpjceaaMacFill
import Derived.Test.YtkpdhpbnbpjceaaMacAny
import Derived.Test.YtkpdhpbnbpjceaaLexOne
import Derived.Test.YtkpdhpbnbpjceaaMacWord
namespace Go.Proofs.Ytkpdhpbnbpjceaa
open Go.RowKit

theorem rt_of_own' {w : World} {base e : Nat} {v : Value} {l : List Lx.Tok} (h : w.ownsRow base e 2 v l.length (tcs l)) : Rt w v l := own_rd h

/-- Two lists that have been laid anew. -/
theorem two_lists (w : World) (l1 l2 : List Lx.Tok) (T T2 : TypeId) : Rts (((w.alloc (.cells (tcs l1).toArray T)).alloc (.cells (tcs l2).toArray T)).alloc (.cells #[.slice (some ⟨w.heap.size, 0, none⟩) l1.length l1.length, .slice (some ⟨w.heap.size + 1, 0, none⟩) l2.length l2.length] T2)) (.slice (some ⟨w.heap.size + 1 + 1, 0, none⟩) 2 2) [l1, l2] := by
  have h1 := rt_made w l1 T
  have h2 := rt_made (w.alloc (.cells (tcs l1).toArray T)) l2 T
  have e1 : (w.alloc (.cells (tcs l1).toArray T)).heap.size = w.heap.size + 1 := by simp
  have e2 : ((w.alloc (.cells (tcs l1).toArray T)).alloc (.cells (tcs l2).toArray T)).heap.size = w.heap.size + 1 + 1 := by simp
  rw [e1] at h2
  have a2 := (Below.refl (w.alloc (.cells (tcs l1).toArray T)).heap.size (w.alloc (.cells (tcs l1).toArray T))).alloc (Nat.le_refl _) (.cells (tcs l2).toArray T)
  have a3 := (Below.refl _ ((w.alloc (.cells (tcs l1).toArray T)).alloc (.cells (tcs l2).toArray T))).alloc (Nat.le_refl _) (.cells #[.slice (some ⟨w.heap.size, 0, none⟩) l1.length l1.length, .slice (some ⟨w.heap.size + 1, 0, none⟩) l2.length l2.length] T2)
  have hn := heap_alloc_new ((w.alloc (.cells (tcs l1).toArray T)).alloc (.cells (tcs l2).toArray T)) (.cells #[.slice (some ⟨w.heap.size, 0, none⟩) l1.length l1.length, .slice (some ⟨w.heap.size + 1, 0, none⟩) l2.length l2.length] T2)
  rw [e2] at hn
  refine ⟨[.slice (some ⟨w.heap.size, 0, none⟩) l1.length l1.length, .slice (some ⟨w.heap.size + 1, 0, none⟩) l2.length l2.length], ⟨rfl, .inr ⟨_, 0, 2, rfl, fun _ => row_lt hn, fun j u hj => by rw [Nat.zero_add, row_cell hn]; simpa using hj, Nat.le_refl _⟩⟩, fun i u l hu hl => ?_⟩
  match i with
  | 0 => simp at hu hl; subst hu; subst hl; exact (h1.below' a2).below' a3
  | 1 => simp at hu hl; subst hu; subst hl; exact h2.below' a3
  | i + 2 => simp at hu

theorem RdM.nil (w : World) : RdM w (.slice none 0 0) [] := ⟨⟨rfl, .inl ⟨.inl rfl, rfl⟩⟩, fun _ h => by cases h⟩
theorem Rt.nil (w : World) : Rt w (.slice none 0 0) [] := ⟨rfl, .inl ⟨.inl rfl, rfl⟩⟩
abbrev fm : Mac := ([120], 1, [(1, [98]), (1, [97])])
theorem fixed_put0 (bv : Value) (w : World) (hb : Rt w bv fm.2.2) :
    Calls Try.prog 27 #[.slice none 0 0, .agg #[.string (S [120]), .int .i64 1, bv]] w fun e w' => ∃ v' qs, e = .returned (.tuple #[v', .int .i64 0]) ∧ qs.map Prod.fst = [fm] ∧ RdM w' v' qs ∧ Below w.heap.size w w' := by
  refine (put_any (.slice none 0 0) bv [] fm w (RdM.nil w) hb (by decide) (by decide) (by decide) List.Pairwise.nil (fun _ => insert_end 0)).mono ?_
  rintro e w' ⟨v', qs, h1, h2, h3, h4⟩
  rw [show putM (List.map Prod.fst []) fm = ([fm], 0) from Prod.ext (by decide +kernel) (by decide +kernel)] at h1 h2
  exact ⟨v', qs, h1, h2, h3.rdM, h4⟩
theorem fixed_names {qs : List (Mac × Value)} (h : qs.map Prod.fst = [fm]) : (qs.map fun p => p.1.1) = [[120]] ∧ qs.length = 1 := by
  refine ⟨by rw [names_map, h]; rfl, by have := congrArg List.length h; simpa using this⟩
theorem fixed_put1 (v : Value) (qs : List (Mac × Value)) (w : World) (hq : qs.map Prod.fst = [fm]) (hl : RdM w v qs) :
    Calls Try.prog 27 #[v, .agg #[.string (S [120, 49]), .int .i64 0, .slice none 0 0]] w fun e w' => ∃ v', e = .returned (.tuple #[v', .int .i64 2]) ∧ Below w.heap.size w w' := by
  obtain ⟨hn, hl1⟩ := fixed_names hq
  refine (put_any v (.slice none 0 0) qs ([120, 49], 0, []) w hl (Rt.nil w) (by decide) (by decide) (by omega) (by rw [hn]; exact List.pairwise_singleton _ _) (fun _ => by rw [hn, hl1]; exact insert_end 1)).mono ?_
  rintro e w' ⟨v', qs', h1, h2, h3, h4⟩
  rw [hq, show putM [fm] ([120, 49], 0, []) = ([], 2) from Prod.ext (by decide +kernel) (by decide +kernel)] at h1
  exact ⟨v', h1, h4⟩
theorem fixed_put2 (v : Value) (qs : List (Mac × Value)) (w : World) (hq : qs.map Prod.fst = [fm]) (hl : RdM w v qs) :
    Calls Try.prog 27 #[v, .agg #[.string (S [120]), .int .i64 10, .slice none 0 0]] w fun e w' => ∃ v', e = .returned (.tuple #[v', .int .i64 1]) ∧ Below w.heap.size w w' := by
  obtain ⟨hn, hl1⟩ := fixed_names hq
  refine (put_any v (.slice none 0 0) qs ([120], 10, []) w hl (Rt.nil w) (by decide) (by decide) (by omega) (by rw [hn]; exact List.pairwise_singleton _ _) (fun h => by rw [hn] at h; simp at h)).mono ?_
  rintro e w' ⟨v', qs', h1, h2, h3, h4⟩
  rw [hq, show putM [fm] ([120], 10, []) = ([], 1) from Prod.ext (by decide +kernel) (by decide +kernel)] at h1
  exact ⟨v', h1, h4⟩
theorem fixed_get (v : Value) (qs : List (Mac × Value)) (w : World) (hq : qs.map Prod.fst = [fm]) (hl : RdM w v qs) :
    Calls Try.prog 30 #[v, .string (S [120])] w fun e w' => ∃ bv, e = .returned (.tuple #[.agg #[.string (S [120]), .int .i64 1, bv], .bool true]) ∧ Rt w' bv fm.2.2 ∧ Below w.heap.size w w' := by
  obtain ⟨hn, hl1⟩ := fixed_names hq
  refine (get_any v qs [120] w hl (by omega) (by rw [hn]; exact List.pairwise_singleton _ _)).mono ?_
  rintro e w' ⟨bv, h1, h2, h3⟩
  rw [hq, show getM [fm] [120] = (fm, true) from by decide +kernel] at h1 h2
  exact ⟨bv, h1, h2, h3⟩
theorem fixed_drop (v : Value) (qs : List (Mac × Value)) (t : List UInt8) (n : Nat) (w : World) (hq : qs.map Prod.fst = [fm]) (hl : RdM w v qs) (hd : (dropM [fm] t).length = n) :
    Calls Try.prog 25 #[v, .string (S t)] w fun e w' => ∃ a c, e = .returned (.slice a n c) ∧ Below w.heap.size w w' := by
  obtain ⟨hn, hl1⟩ := fixed_names hq
  refine (drop_any v qs t w hl (by omega) (by rw [hn]; exact List.pairwise_singleton _ _)).mono ?_
  rintro e w' ⟨v', qs', h1, h2, h3, h4⟩
  rw [hq] at h2
  obtain ⟨a, c, rfl⟩ := own_shape h3.row
  have : qs'.length = n := by rw [← hd, ← h2, List.length_map]
  rw [this] at h1
  exact ⟨a, c, h1, h4⟩

abbrev fL : List Lx.Tok := [(5, []), (1, [97]), (5, []), (1, [98]), (6, []), (6, []), (2, []), (1, [99])]
abbrev fM : List Lx.Tok := [(2, []), (5, []), (1, [120]), (6, []), (5, []), (1, [121]), (2, []), (1, [122]), (6, [])]

set_option maxRecDepth 20000 in
set_option maxHeartbeats 4000000 in
/-- The calls whose answers the document fixes: true. -/
theorem macFixed_any (w : World) :
    Calls Try.prog 17 #[] w fun e w' => e = .returned (.bool true) ∧ Below w.heap.size w w' := by
  go_enter Try.func17, Try.ntmps17
  simp only [S_lit]
  go_wp2_with fail
  (with_reducible refine (lex_any _ (by decide) _).mono ?_); rintro e w1 ⟨va, rfl, oa, b1⟩
  rw [show Lx.lex [123, 97, 123, 98, 125, 125, 32, 99] = fL from by decide +kernel] at oa
  have ra := rt_of_own' oa
  go_wp2_with fail
  (with_reducible refine (lex_any _ (by decide) _).mono ?_); rintro e w2 ⟨vm, rfl, om, b2⟩
  rw [show Lx.lex [32, 123, 120, 125, 123, 121, 32, 122, 125] = fM from by decide +kernel] at om
  have rm := rt_of_own' om
  have ra2 := ra.below' b2
  have H2 := b1.trans (b2.mono b1.size)
  clear oa om ra b1 b2
  go_wp2_with fail
  (with_reducible refine (group_any _ _ 0 _ ra2 (by decide)).mono ?_); rintro e w3 ⟨rfl, b3⟩
  rw [show Mx.groupAt fL 0 = (6, 0) from by decide +kernel]
  have ra3 := ra2.below' b3
  have rm3 := rm.below' b3
  have H3 := H2.trans (b3.mono H2.size)
  clear ra2 rm b3 H2
  go_wp2_with fail
  (with_reducible refine (group_any _ _ 1 _ ra3 (by decide)).mono ?_); rintro e w4 ⟨rfl, b4⟩
  rw [show Mx.groupAt fL 1 = (0, 10) from by decide +kernel]
  have ra4 := ra3.below' b4
  have rm4 := rm3.below' b4
  have H4 := H3.trans (b4.mono H3.size)
  clear ra3 rm3 b4 H3
  go_wp2_with fail
  (with_reducible refine (group_any _ _ (-1) _ ra4 (by decide)).mono ?_); rintro e w5 ⟨rfl, b5⟩
  rw [show Mx.groupAt fL (-1) = (0, 1) from by decide +kernel]
  have ra5 := ra4.below' b5
  have rm5 := rm4.below' b5
  have H5 := H4.trans (b5.mono H4.size)
  clear ra4 rm4 b5 H4
  obtain ⟨aa, ca, rfl⟩ := ra5.shape
  obtain ⟨ba, oa, rfl, _, _⟩ := ra5.at (i := 0) (by decide)
  have hca : 8 ≤ ca := Rd.cap ra5
  have rp := Rt.part ra5 rfl (i := 0) (j := 4) (by decide) (by decide) ca (by omega)
  clear ra5
  go_wp2_with fail
  rw [show (min (4 : Int) 8).toNat = 4 from rfl]
  (with_reducible refine (group_any (.slice (some ⟨ba, oa, none⟩) 4 ca) [(5, []), (1, [97]), (5, []), (1, [98])] 0 _ rp (by decide)).mono ?_); rintro e w6 ⟨rfl, b6⟩
  rw [show Mx.groupAt [(5, []), (1, [97]), (5, []), (1, [98])] 0 = (0, 10) from by decide +kernel]
  have rm6 := rm5.below' b6
  have H6 := H5.trans (b6.mono H5.size)
  clear rp rm5 b6 H5
  go_wp2_with fail
  (with_reducible refine (args_any _ _ 0 2 _ rm6 (by decide)).mono ?_); rintro e w7 ⟨vx, rfl, rx, b7⟩
  rw [show argsAt fM 0 2 = ([[(1, [120])], [(1, [121]), (2, []), (1, [122])]], 9, 0) from by decide +kernel] at rx ⊢
  have rm7 := rm6.below' b7
  have H7 := H6.trans (b7.mono H6.size)
  obtain ⟨ax, cx, rfl⟩ := rx.shape
  clear rm6 b7 H6 rx
  go_wp2_with fail
  (with_reducible refine (args_any _ _ 0 3 _ rm7 (by decide)).mono ?_); rintro e w8 ⟨vy, rfl, _, b8⟩
  rw [show argsAt fM 0 3 = ([], 0, 10) from by decide +kernel]
  have rm8 := rm7.below' b8
  have H8 := H7.trans (b8.mono H7.size)
  clear rm7 b8 H7
  go_wp2_with fail
  (with_reducible refine (args_any _ _ 1 0 _ rm8 (by decide)).mono ?_); rintro e w9 ⟨vz, rfl, _, b9⟩
  rw [show argsAt fM 1 0 = ([], 1, 0) from by decide +kernel]
  have H9 := H8.trans (b9.mono H8.size)
  obtain ⟨am, cm, rfl⟩ := rm8.shape
  clear rm8 b9 H8
  go_wp2_with fail
  (with_reducible refine (lex_any _ (by decide) _).mono ?_); rintro e wa ⟨vb, rfl, ob, ba⟩
  rw [show Lx.lex [35, 50, 35, 49, 35, 51] = [(7, [50]), (7, [49]), (7, [51])] from by decide +kernel] at ob
  have rb := rt_of_own' ob
  have Ha := H9.trans (ba.mono H9.size)
  clear ob ba H9
  go_wp2_with fail
  have Hb : Below wa.heap.size wa (((wa.alloc (.cells #[.int .i64 1, .string (S [97])] 41)).alloc (.cells #[.int .i64 1, .string (S [98])] 41)).alloc (.cells #[.slice (some ⟨wa.heap.size, 0, none⟩) 1 1, .slice (some ⟨wa.heap.size + 1, 0, none⟩) 1 1] 22)) :=
    (((Below.refl wa.heap.size wa).alloc (Nat.le_refl _) _).alloc (by simp) _).alloc (by simp; omega) _
  have r2 : Rts (((wa.alloc (.cells #[.int .i64 1, .string (S [97])] 41)).alloc (.cells #[.int .i64 1, .string (S [98])] 41)).alloc (.cells #[.slice (some ⟨wa.heap.size, 0, none⟩) 1 1, .slice (some ⟨wa.heap.size + 1, 0, none⟩) 1 1] 22)) (.slice (some ⟨wa.heap.size + 1 + 1, 0, none⟩) 2 2) [[(1, [97])], [(1, [98])]] := two_lists wa [(1, [97])] [(1, [98])] 41 22
  have rb2 := rb.below' Hb
  have Hb3 := Ha.trans (Hb.mono Ha.size)
  (with_reducible refine (fill_any vb (.slice (some ⟨wa.heap.size + 1 + 1, 0, none⟩) 2 2) _ [[(1, [97])], [(1, [98])]] _ rb2 r2 (by decide) (by decide)).mono ?_); rintro e wb ⟨vf, rfl, of, bb⟩
  rw [show Mx.fill [[(1, [97])], [(1, [98])]] [(7, [50]), (7, [49]), (7, [51])] = [(1, [98]), (1, [97])] from by decide +kernel] at of
  have rf := rt_of_own' of
  obtain ⟨af, cf, rfl⟩ := own_shape of
  have Hc := Hb3.trans (bb.mono Hb3.size)
  clear r2 Hb rb2 rb bb Ha of Hb3
  go_wp2_with fail
  (with_reducible refine (lex_any _ (by decide) _).mono ?_); rintro e wc ⟨vg, rfl, og, bc⟩
  rw [show Lx.lex [120] = [(1, [120])] from by decide +kernel] at og
  have rg := rt_of_own' og
  have rf1 := rf.below' bc
  have Hd := Hc.trans (bc.mono Hc.size)
  clear og rf bc Hc
  go_wp2_with fail
  (with_reducible refine (macWord_any _ _ _ rg).mono ?_); rintro e wd ⟨rfl, bd⟩
  rw [show wordOf [(1, [120])] = ([120], true) from rfl]
  have rf2 := rf1.below' bd
  have He := Hd.trans (bd.mono Hd.size)
  clear rg rf1 bd Hd
  go_wp2_with fail
  (with_reducible refine (lex_any _ (by decide) _).mono ?_); rintro e we ⟨vh, rfl, oh, be⟩
  rw [show Lx.lex [120, 32, 121] = [(1, [120]), (2, []), (1, [121])] from by decide +kernel] at oh
  have rh := rt_of_own' oh
  have rf3 := rf2.below' be
  have Hf := He.trans (be.mono He.size)
  clear oh rf2 be He
  go_wp2_with fail
  (with_reducible refine (macWord_any _ _ _ rh).mono ?_); rintro e wf ⟨rfl, bf⟩
  rw [show wordOf [(1, [120]), (2, []), (1, [121])] = ([], false) from rfl]
  have rf4 := rf3.below' bf
  have Hg := Hf.trans (bf.mono Hf.size)
  clear rh rf3 bf Hf
  go_wp2_with fail
  have rf4' : Rt wf (.slice af 2 cf) fm.2.2 := rf4
  (with_reducible refine (fixed_put0 (.slice af 2 cf) wf rf4').mono ?_); rintro e wg ⟨vp, qs, rfl, hqs, rp, bg⟩
  have rf5 := rf4.below' bg
  have Hh := Hg.trans (bg.mono Hg.size)
  clear rf4 rf4' bg Hg
  go_wp2_with fail
  (with_reducible refine (fixed_put1 vp qs wg hqs rp).mono ?_); rintro e wh ⟨vq, rfl, bh⟩
  have rf6 := rf5.below' bh
  have rp1 := rp.below' bh
  have Hi := Hh.trans (bh.mono Hh.size)
  clear rf5 rp bh Hh
  go_wp2_with fail
  (with_reducible refine (fixed_put2 vp qs wh hqs rp1).mono ?_); rintro e wi ⟨vr, rfl, bi⟩
  have rf7 := rf6.below' bi
  have rp2 := rp1.below' bi
  have Hj := Hi.trans (bi.mono Hi.size)
  clear rf6 rp1 bi Hi
  go_wp2_with fail
  (with_reducible refine (fixed_get vp qs wi hqs rp2).mono ?_); rintro e wj ⟨vt, rfl, rt, bj⟩
  obtain ⟨at1, ct, rfl⟩ := rt.shape
  clear rt
  have rf8 := rf7.below' bj
  have rp3 := rp2.below' bj
  have Hk := Hj.trans (bj.mono Hj.size)
  have hql := (fixed_names hqs).2
  obtain ⟨ap, cp, hvp⟩ := rp3.rd.shape
  rw [hql] at hvp
  subst hvp
  clear rf7 rp2 bj Hj hql
  go_wp2_with fail
  have al := (Below.refl wj.heap.size wj).alloc (Nat.le_refl _) (.cells #[.string (S [120]), .int .i64 1, .slice at1 2 ct] 55)
  have hrr := heap_alloc_new wj (.cells #[.string (S [120]), .int .i64 1, .slice at1 2 ct] 55)
  obtain ⟨wk, hwk⟩ : ∃ wk, wk = wj.alloc (.cells #[.string (S [120]), .int .i64 1, .slice at1 2 ct] 55) := ⟨_, rfl⟩
  rw [← hwk] at al hrr ⊢
  have rf9 : Rt wk (.slice af 2 cf) [(1, [98]), (1, [97])] := rf8.below' al
  have rp4 := rp3.below' al
  have Hl := Hk.trans (al.mono Hk.size)
  clear al hwk rf8 rp3 Hk
  (with_reducible refine (refs_any _ _ _ rf9 (by decide)).mono ?_); rintro e wl ⟨vu, rfl, ou, bl⟩
  have ru := rt_of_own' ou
  have rp5 := rp4.below' bl
  have hr2 := (bl.block _ (row_lt hrr)).trans hrr
  have Hm := Hl.trans (bl.mono Hl.size)
  clear rf9 rp4 hrr ou bl Hl
  go_wp2_with fail
  have al : Below wl.heap.size wl (wl.alloc (.cells #[.int .i64 1, .string (S [98]), .int .i64 1, .string (S [97])] 80)) := (Below.refl wl.heap.size wl).alloc (Nat.le_refl _) _
  have m4 : Rt (wl.alloc (.cells #[.int .i64 1, .string (S [98]), .int .i64 1, .string (S [97])] 80)) (.slice (some ⟨wl.heap.size, 0, none⟩) 2 2) [(1, [98]), (1, [97])] := rt_made wl [(1, [98]), (1, [97])] _
  (with_reducible refine (same_any _ _ _ [(1, [98]), (1, [97])] _ (ru.below' al) m4 (by decide) (by decide)).mono ?_); rintro e wm ⟨rfl, bm⟩
  rw [show ([(1, [98]), (1, [97])] == ([(1, [98]), (1, [97])] : List Lx.Tok)) = true from by decide +kernel]
  have bb := al.trans (bm.mono (by simp))
  have rp6 := rp5.below' bb
  have hr3 := (bb.block _ (row_lt hr2)).trans hr2
  have Hn := Hm.trans (bb.mono Hm.size)
  clear ru rp5 hr2 m4 al bm bb Hm
  go_wp2_with fail
  (with_reducible refine (lex_any _ (by decide) _).mono ?_); rintro e wn ⟨vv, rfl, ov, bn⟩
  rw [show Lx.lex [32, 97, 123, 98, 125, 32, 10, 10, 32, 99, 32] = [(2, []), (1, [97]), (5, []), (1, [98]), (6, []), (3, []), (1, [99]), (2, [])] from by decide +kernel] at ov
  have rv := rt_of_own' ov
  have rp7 := rp6.below' bn
  have hr4 := (bn.block _ (row_lt hr3)).trans hr3
  have Ho := Hn.trans (bn.mono Hn.size)
  clear ov rp6 hr3 bn Hn
  go_wp2_with fail
  (with_reducible refine (flat_any _ _ _ rv (by decide) (by decide)).mono ?_); rintro e wo ⟨rfl, bo⟩
  rw [show Mx.flatOf [(2, []), (1, [97]), (5, []), (1, [98]), (6, []), (3, []), (1, [99]), (2, [])] = [97, 98, 32, 99] from by decide +kernel]
  have rp8 := rp7.below' bo
  have hr5 := (bo.block _ (row_lt hr4)).trans hr4
  have Hp := Ho.trans (bo.mono Ho.size)
  have hc5 : wo.cell? ⟨wj.heap.size, 1, none⟩ = some (.int .i64 1) := row_cell hr5 1
  clear rv rp7 hr4 bo Ho
  go_wp2_with fail
  (with_reducible refine (fixed_drop _ qs [120] 0 wo hqs rp8 (by decide +kernel)).mono ?_); rintro e wp ⟨ad, cd, rfl, bp⟩
  have rp9 := rp8.below' bp
  have Hq := Hp.trans (bp.mono Hp.size)
  clear rp8 hr5 hc5 bp Hp
  go_wp2_with fail
  (with_reducible refine (fixed_drop _ qs [121] 1 wp hqs rp9 (by decide +kernel)).mono ?_); rintro e wq ⟨ad2, cd2, rfl, bq⟩
  have Hr := Hq.trans (bq.mono Hq.size)
  clear rp9 bq Hq
  go_wp2_with fail
  go_ret
  exact ⟨rfl, Hr⟩

end Go.Proofs.Ytkpdhpbnbpjceaa
