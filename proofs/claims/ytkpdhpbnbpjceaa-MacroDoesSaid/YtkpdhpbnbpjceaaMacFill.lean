
/- The macro layer: what a body is, filled; the program's walk and the reference's. No condition. -/
import Derived.Test.YtkpdhpbnbpjceaaMacLists
import Derived.Test.YtkpdhpbnbpjceaaLexProg
namespace Go.Proofs.Ytkpdhpbnbpjceaa
open Go.RowKit

namespace Mx
open Lx
/-- The place of a parameter's argument; below 0: it has none. -/
def placeI (s : Bytes) : Int := match s with | [c] => (c.toNat : Int) - 49 | _ => -1
/-- What stands for a parameter whose argument's place is this one, if the first k arguments are asked. -/
def argAt (ls : List (List Tok)) (z : Int) (k : Nat) : List Tok := if 0 ≤ z ∧ z < k then ls.getD z.toNat [] else []
def fillOne (ls : List (List Tok)) (t : Tok) : List Tok := if t.1 = 7 then argAt ls (placeI t.2) ls.length else [t]
def fill (ls : List (List Tok)) (l : List Tok) : List Tok := l.flatMap (fillOne ls)
end Mx

theorem getD_le {ls : List (List Lx.Tok)} {m : Nat} (h : ∀ l ∈ ls, l.length ≤ m) (k : Nat) : (ls.getD k []).length ≤ m := by
  by_cases hk : k < ls.length
  · have e : ls.getD k [] = ls[k] := by simp [List.getD, hk]
    rw [e]; exact h _ (List.getElem_mem hk)
  · have e : ls.getD k [] = [] := by simp [List.getD, List.getElem?_eq_none (show ls.length ≤ k by omega)]
    rw [e]; simp
theorem fillOne_le {ls : List (List Lx.Tok)} {m : Nat} (h : ∀ l ∈ ls, l.length ≤ m) (t : Lx.Tok) : (Mx.fillOne ls t).length ≤ m + 1 := by
  unfold Mx.fillOne Mx.argAt
  split
  · split
    · have := getD_le h (Mx.placeI t.2).toNat; omega
    · simp
  · simp
theorem fill_take {ls : List (List Lx.Tok)} {l : List Lx.Tok} {k : Nat} (hk : k < l.length) : Mx.fill ls (l.take (k + 1)) = Mx.fill ls (l.take k) ++ Mx.fillOne ls l[k] := by
  rw [take_snoc l k hk]; simp only [Mx.fill, List.flatMap_append, List.flatMap_cons, List.flatMap_nil, List.append_nil]
theorem fill_le {ls : List (List Lx.Tok)} {m : Nat} (h : ∀ l ∈ ls, l.length ≤ m) (l : List Lx.Tok) : (Mx.fill ls l).length ≤ l.length * (m + 1) := by
  induction l with
  | nil => simp [Mx.fill]
  | cons t l ih =>
    have := fillOne_le h t
    have e : Mx.fill ls (t :: l) = Mx.fillOne ls t ++ Mx.fill ls l := by simp [Mx.fill]
    rw [e, List.length_append, List.length_cons, Nat.succ_mul]; omega

/-- 'place': that of a parameter's argument. -/
theorem place_any (s : List UInt8) (w : World) : Calls Try.prog 38 #[.string (S s)] w fun e w' => e = .returned (.int .i64 (Mx.placeI s)) ∧ w' = w := by
  match s with
  | [] =>
    go_enter Try.func38, Try.ntmps38
    go_wp2_with fail
    go_ret
    exact ⟨rfl, rfl⟩
  | [c] =>
    have hw : IntKind.i64.wrap ((c.toNat : Int)) = (c.toNat : Int) := (Go.IntWalk.i64_left _).trans (Go.IntWalk.wrap64_in _ (by have := c.toNat_lt; omega))
    have hw2 : IntKind.i64.wrap ((c.toNat : Int) - 49) = (c.toNat : Int) - 49 := (Go.IntWalk.i64_left _).trans (Go.IntWalk.wrap64_in _ (by have := c.toNat_lt; omega))
    have hlt := c.toNat_lt
    go_enter Try.func38, Try.ntmps38
    go_wp2_with fail
    go_ret
    exact ⟨rfl, rfl⟩
  | a :: b :: r =>
    have hb : (((a :: b :: r).length : Int) != 1) = true := by simp [bne]; omega
    go_enter Try.func38, Try.ntmps38
    go_wp2_with fail
    go_ret
    exact ⟨rfl, rfl⟩

set_option maxRecDepth 20000 in
set_option maxHeartbeats 1600000 in
/-- 'Fill'. -/
theorem fill_any (v va : Value) (l : List Lx.Tok) (ls : List (List Lx.Tok)) (w : World) (hl : Rt w v l) (ha : Rts w va ls) (hlen : l.length ≤ 100000) (hs : ∀ l ∈ ls, l.length ≤ 100000) :
    Calls Try.prog 21 #[v, va] w fun e w' => ∃ v', e = .returned v' ∧ w'.ownsRow w.heap.size 41 2 v' (Mx.fill ls l).length (tcs (Mx.fill ls l)) ∧ Below w.heap.size w w' := by
  obtain ⟨a0, c0, rfl⟩ := hl.shape
  obtain ⟨a1, c1, rfl⟩ := ha.shape
  have HL := Lib.hid hl
  have HA := Lib.hid ha
  clear hl ha
  go_enter Try.func21, Try.ntmps21
  go_wp2_with fail
  go_loopw [5, 11] (fun v i wr => ∃ (k : Nat) (acc : List Lx.Tok), k ≤ l.length ∧ i = .int .i64 k ∧ Hid (acc = Mx.fill ls (l.take k)) ∧ acc.length ≤ k * 100001 ∧ wr.ownsRow w.heap.size 41 2 v acc.length (tcs acc) ∧ Below w.heap.size w wr) (fun _ i _ => l.length - (intOf i).toNat)
  case atStart => exact ⟨0, [], Nat.zero_le _, rfl, rfl, Nat.zero_le _, World.ownsRow_nil _ _ _ _, Below.refl _ _⟩
  case round =>
    obtain ⟨k, acc, hk, rfl, HC, hal, hown, hbw⟩ := hrel
    have hsz := hbw.size
    by_cases hlt : k < l.length
    · obtain ⟨b1, o1, rfl, c10, c11⟩ := (HL.out.below' hbw).at hlt
      obtain ⟨z, s, hzs⟩ : ∃ z s, l[k] = (z, s) := ⟨_, _, rfl⟩
      have HN := Lib.hid (show acc ++ Mx.fillOne ls (z, s) = Mx.fill ls (l.take (k + 1)) by rw [fill_take hlt, ← HC.out, hzs])
      rw [hzs] at c10 c11
      clear hzs
      go_wp2_with fail
      (with_reducible refine (of1_any (z, s) 7 _ _ (by simp)).mono ?_); rintro e w2 ⟨rfl, b2⟩
      have ht2 := (b2.block wr.heap.size (by simp)).trans (heap_alloc_new wr _)
      have b2' : Below wr.heap.size wr w2 := ((Below.refl _ wr).alloc (Nat.le_refl _) _).trans (b2.mono (by simp))
      have bw2 := hbw.trans (b2'.mono hsz)
      have hs2 := b2'.size
      have c5 : w2.cell? ⟨wr.heap.size, 0, none⟩ = some (.int .i64 z) := row_cell ht2 0
      have c6 : w2.cell? ⟨wr.heap.size, 1, none⟩ = some (.string (S s)) := row_cell ht2 1
      have hown2 := own_below hown (own_under hown) b2'
      cases h7 : (z == 7)
      · have HF := Lib.hid (show Mx.fillOne ls (z, s) = [(z, s)] by rw [Mx.fillOne, if_neg (by simpa using h7)])
        go_wp2_with (at_builtin; refine wp_app tyTok rfl _ _ rfl w.heap.size hown2 rfl rfl (by simp) rfl tc_one (by omega) (by omega) (by omega) ?_; intro v3 w3 hown3 b3 _)
        go_roundw
        case rel => exact ⟨k + 1, acc ++ [(z, s)], by omega, by go_num, Lib.hid (by rw [← HN.out, HF.out]), by simp; omega, (by rw [tcs_snoc, List.length_append]; exact hown3), bw2.trans b3⟩
        case measure => simp [intOf]; omega
      · have hz7 : z = 7 := by simpa using h7
        subst hz7
        obtain ⟨q, hq⟩ : ∃ q, q = Mx.placeI s := ⟨_, rfl⟩
        have HF := Lib.hid (show Mx.fillOne ls (7, s) = Mx.argAt ls q ls.length by rw [Mx.fillOne, if_pos rfl, hq])
        have HP := Lib.hid hq
        clear hq
        by_cases hq0 : 0 ≤ q
        · by_cases hql : q < (ls.length : Int)
          · obtain ⟨m, rfl⟩ := Int.eq_ofNat_of_zero_le hq0
            have hml : m < ls.length := by omega
            obtain ⟨b3, o3, u, rfl, c30, r3, _, k3⟩ := (HA.out.below' bw2).at hml
            have HF2 := Lib.hid (HF.out.trans (show Mx.argAt ls (m : Int) ls.length = ls[m] by rw [Mx.argAt, if_pos ⟨hq0, hql⟩]; simp [List.getD, hml]))
            have hlm := hs _ (List.getElem_mem hml)
            obtain ⟨au, cu, rfl⟩ := r3.shape
            go_wp2_with (first
              | (go_at_call 38; (with_reducible refine (place_any _ _).mono ?_); rintro e w3 ⟨rfl, rfl⟩; rw [← HP.out])
              | (at_builtin; refine wp_app_all tyTok rfl _ _ rfl w.heap.size hown2 r3 rfl rfl tcs_one (by omega) (by omega) (by omega) ?_; intro v3 w3 hown3 b3 _))
            go_roundw
            case rel => exact ⟨k + 1, acc ++ ls[m], by omega, by go_num, Lib.hid (by rw [← HN.out, HF2.out]), by simp; omega, (by rw [tcs_append, List.length_append]; exact hown3), bw2.trans b3⟩
            case measure => simp [intOf]; omega
          · have HF2 := Lib.hid (HF.out.trans (show Mx.argAt ls q ls.length = [] by rw [Mx.argAt, if_neg (by omega)]))
            go_wp2_with (go_at_call 38; (with_reducible refine (place_any _ _).mono ?_); rintro e w3 ⟨rfl, rfl⟩; rw [← HP.out])
            go_roundw
            case rel => exact ⟨k + 1, acc, by omega, by go_num, Lib.hid (by rw [← HN.out, HF2.out, List.append_nil]), Nat.le_trans hal (Nat.mul_le_mul_right _ (Nat.le_succ k)), hown2, bw2⟩
            case measure => simp [intOf]; omega
        · have HF2 := Lib.hid (HF.out.trans (show Mx.argAt ls q ls.length = [] by rw [Mx.argAt, if_neg (by omega)]))
          go_wp2_with (go_at_call 38; (with_reducible refine (place_any _ _).mono ?_); rintro e w3 ⟨rfl, rfl⟩; rw [← HP.out])
          go_roundw
          case rel => exact ⟨k + 1, acc, by omega, by go_num, Lib.hid (by rw [← HN.out, HF2.out, List.append_nil]), Nat.le_trans hal (Nat.mul_le_mul_right _ (Nat.le_succ k)), hown2, bw2⟩
          case measure => simp [intOf]; omega
    · obtain rfl : k = l.length := by omega
      have HE := Lib.hid (HC.out.trans (by rw [List.take_length]))
      go_wp2_with fail
      go_ret
      exact ⟨_, rfl, by rw [← HE.out]; exact hown, hbw⟩

end Go.Proofs.Ytkpdhpbnbpjceaa
