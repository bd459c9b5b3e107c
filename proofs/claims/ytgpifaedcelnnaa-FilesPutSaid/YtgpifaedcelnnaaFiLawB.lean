
/- 'FilesOrder', walked: it answers true at every input. No condition. -/
import Derived.Test.YtgpifaedcelnnaaFiSet
namespace Go.Proofs.Ytgpifaedcelnnaa
open Go.RowKit

theorem rf_empty (w : World) (p : Addr) (c : Nat) : Rf w (.slice (some p) 0 c) [] := ⟨rfl, .inl ⟨.inr ⟨_, _, rfl⟩, rfl⟩⟩
theorem mapF_len (m b : Nat) : ∀ (l out : List Fl), (Fi.mapF m b out l).length ≤ out.length + l.length := by
  intro l
  induction l with
  | nil => intro out; exact Nat.le_refl _
  | cons f r ih =>
    intro out
    rw [map_step]
    split
    · have := ih (Fi.put out (f.1, f.2.take b)).1
      have := put_len out (f.1, f.2.take b)
      rw [List.length_cons]; omega
    · have := ih out
      rw [List.length_cons]; omega
theorem map_len (l : List Fl) (m b : Nat) : (Fi.map l m b).length ≤ m := by
  have := mapF_len m b (l.take m) []
  rw [List.length_take] at this
  unfold Fi.map
  simp only [List.length_nil] at this
  omega

set_option maxRecDepth 20000 in
set_option maxHeartbeats 8000000 in
/-- 'FilesOrder'. -/
theorem filesOrder_any (v u : Value) (l k : List Fl) (w : World) (hl : Rf w v l) (hk : Rf w u k) (hs : ∀ f ∈ l, f.1.length ≤ 9223372036854775807 ∧ f.2.length ≤ 9223372036854775807) (hs2 : ∀ f ∈ k, f.1.length ≤ 9223372036854775807 ∧ f.2.length ≤ 9223372036854775807) :
    Calls Try.prog 6 #[v, u] w fun e w' => e = .returned (.bool true) ∧ Below w.heap.size w w' := by
  have hA := refMap_any v l 20 200 w hl (by decide) (by decide) hs
  have hB := fun w' (hb : Below w.heap.size w w') => refMap_any u k 20 200 w' (hk.below' hb) (by decide) (by decide) hs2
  simp only [Int.cast_ofNat_Int] at hA hB
  have oka := map_ok l 20 200
  have okb := map_ok k 20 200
  have hla := map_len l 20 200
  have hlb := map_len k 20 200
  obtain ⟨a, ha⟩ : ∃ a, a = Fi.map l 20 200 := ⟨_, rfl⟩
  obtain ⟨b, hb⟩ : ∃ b, b = Fi.map k 20 200 := ⟨_, rfl⟩
  rw [← ha] at hA oka hla
  rw [← hb] at hB okb hlb
  have HA := Lib.hid hA
  have HB := Lib.hid hB
  have OA := Lib.hid oka
  have OB := Lib.hid okb
  have HD := Lib.hid (diff_comm oka.2.1 okb.2.1)
  have HE := Lib.hid (diff_nil oka.2.1 okb.2.1)
  clear hA hB oka okb ha hb hl hk hs hs2
  go_enter Try.func6, Try.ntmps6
  go_wp2_with fail
  (with_reducible refine HA.out.mono ?_); rintro e w1 ⟨va, rfl, oa, b1⟩
  have ra := rf_own oa
  clear oa
  go_wp2_with fail
  (with_reducible refine (HB.out w1 b1).mono ?_); rintro e w2 ⟨vb, rfl, ob, b2⟩
  have rb2 := rf_own ob
  have ra2 := ra.below' b2
  have B2 := b1.trans (b2.mono b1.size)
  clear ra ob b1 b2 HA HB
  obtain ⟨aa, ca, rfl⟩ := ra2.shape
  have RA := Lib.hid ra2
  have RB := Lib.hid rb2
  clear ra2 rb2
  go_wp2_with fail
  go_loopw [7, 8, 9] (fun vc vd i wr => ∃ q : Nat, q ≤ a.length ∧ i = .int .i64 q ∧ Hid (Rf wr vc (a.take q)) ∧ Hid (Rf wr vd (a.drop (a.length - q))) ∧ Below w2.heap.size w2 wr) (fun _ _ i _ => a.length - (intOf i).toNat)
  case atStart => exact ⟨0, Nat.zero_le _, rfl, Lib.hid (rf_empty _ _ _), Lib.hid (by rw [Nat.sub_zero, List.drop_length]; exact rf_empty _ _ _), ((Below.refl _ _).alloc (Nat.le_refl _) _).alloc (by simp) _⟩
  case round =>
    obtain ⟨q, hq, rfl, RC, RDD, hbw⟩ := hrel
    have hsz := hbw.size
    by_cases hlt : q < a.length
    · obtain ⟨j, hj⟩ : ∃ j, j = a.length - 1 - q := ⟨_, rfl⟩
      have hja : j < a.length := by omega
      have hjq : a.length - q = j + 1 := by omega
      have hjq2 : a.length - (q + 1) = j := by omega
      obtain ⟨b1, o1, rfl, c10, c11⟩ := (RA.out.below' hbw).at hlt
      obtain ⟨b3, o3, e3, d10, d11⟩ := (RA.out.below' hbw).at hja
      cases e3
      have HP1 := Lib.hid (put_take OA.out.2.1 OA.out.1 OA.out.2.2 hlt)
      have HP2 := Lib.hid (put_front OA.out.2.1 OA.out.1 OA.out.2.2 hja)
      have hn1 := okName_le (OA.out.1 _ (List.getElem_mem hlt)).1
      have hn2 := okName_le (OA.out.1 _ (List.getElem_mem hja)).1
      have hl1 : (a.take q).length ≤ 100000 := by rw [List.length_take]; omega
      have hl2 : (a.drop (j + 1)).length ≤ 100000 := by rw [List.length_drop]; omega
      have rd2 : Rf wr u8 (a.drop (j + 1)) := by have := RDD.out; rwa [hjq] at this
      have HC1 := Lib.hid (fput_any u7 (a.take q) a[q] wr RC.out hl1 (ord_take OA.out.2.1 q) (Nat.le_trans hn1 (by decide)))
      have HC2 := Lib.hid (fun w' (hb : Below wr.heap.size wr w') => fput_any u8 (a.drop (j + 1)) a[j] w' (rd2.below' hb) hl2 (ord_dropK OA.out.2.1 (j + 1)) (Nat.le_trans hn2 (by decide)))
      rw [HP1.out] at HC1
      rw [HP2.out] at HC2
      simp only at HC1 HC2
      obtain ⟨⟨nm, tx⟩, hx⟩ : ∃ x, x = a[q] := ⟨_, rfl⟩
      obtain ⟨⟨nm2, tx2⟩, hx2⟩ : ∃ x, x = a[j] := ⟨_, rfl⟩
      rw [← hx] at c10 c11 HC1
      rw [← hx2] at d10 d11 HC2
      clear hx hx2 HP1 HP2 hn1 hn2 rd2 RDD RC
      have hqi : (q : Int) < (a.length : Int) := by omega
      have hw1 : IntKind.i64.wrap ((a.length : Int) - 1) = (a.length : Int) - 1 := (Go.IntWalk.i64_left _).trans (Go.IntWalk.wrap64_in _ (by omega))
      have hw2 : IntKind.i64.wrap ((a.length : Int) - 1 - (q : Int)) = (j : Int) := (Go.IntWalk.i64_left _).trans ((Go.IntWalk.wrap64_in _ (by omega)).trans (by omega))
      have hw3 : wrap64 ((a.length : Int) - 1) = (a.length : Int) - 1 := Go.IntWalk.wrap64_in _ (by omega)
      have hw4 : wrap64 ((a.length : Int) - 1 - (q : Int)) = (j : Int) := (Go.IntWalk.wrap64_in _ (by omega)).trans (by omega)
      have hji : (j : Int) < (a.length : Int) := by omega
      have hj0 : (0 : Int) ≤ (j : Int) := by omega
      clear hj
      go_wp2_with fail
      (with_reducible refine HC1.out.mono ?_); rintro e w3 ⟨v3, rfl, p3, b3'⟩
      have B3 := hbw.trans (b3'.mono hsz)
      have d10' := (World.cell?_of_block (w := wr) (b3'.block _ (World.block_lt_of_cell? wr _ d10))).trans d10
      have d11' := (World.cell?_of_block (w := wr) (b3'.block _ (World.block_lt_of_cell? wr _ d11))).trans d11
      go_wp2_with fail
      (with_reducible refine (HC2.out w3 b3').mono ?_); rintro e w4 ⟨v4, rfl, p4, b4⟩
      have rp3 := (rf_own p3).below' b4
      have rp4 := rf_own p4
      have B4 := B3.trans (b4.mono B3.size)
      go_wp2_with fail
      go_roundw
      case rel => exact ⟨q + 1, by omega, by go_num, Lib.hid rp3, Lib.hid (by rw [hjq2]; exact rp4), B4⟩
      case measure => simp [intOf]; omega
    · obtain rfl : q = a.length := by omega
      have rc := RC.out
      have rd := RDD.out
      rw [List.take_length] at rc
      rw [Nat.sub_self, List.drop_zero] at rd
      have ra := RA.out.below' hbw
      have rb := RB.out.below' hbw
      have Br := B2.trans (hbw.mono B2.size)
      have hno : decide ((a.length : Int) < (a.length : Int)) = false := by simp
      obtain ⟨s, hs⟩ : ∃ s, s = (a == b) := ⟨_, rfl⟩
      have hs2 : (b == a) = s := by rw [hs, Bool.eq_iff_iff, beq_iff_eq, beq_iff_eq]; exact ⟨Eq.symm, Eq.symm⟩
      have hde := HE.out
      rw [← hs] at hde
      obtain ⟨D, hD⟩ : ∃ D, D = diffS a b := ⟨_, rfl⟩
      have hD2 : diffS b a = D := by rw [hD]; exact HD.out.symm
      rw [← hD] at hde
      have hdl : D.length ≤ 64 := by
        rw [hD]
        unfold diffS
        rw [List.length_mergeSort, List.length_append]
        have := dA_len a b
        have := dB_len a b
        omega
      have h0 : ((D.length : Int) == 0) = s := by rw [← hde, Bool.eq_iff_iff]; simp
      have HS := Lib.hid hs
      have HS2 := Lib.hid hs2
      have HDD := Lib.hid hD
      have HDD2 := Lib.hid hD2
      have H0 := Lib.hid h0
      have hss : (s == s) = true := by simp
      clear hs hs2 hde hD hD2 h0 RC RDD RA RB HD HE
      go_wp2_with fail
      (with_reducible refine (fdiff_any _ _ a b _ ra rb (by omega) (by omega) OA.out.2.1 OB.out.2.1).mono ?_); rintro e w3 ⟨vx, rfl, ox, b3⟩
      rw [← HDD.out] at ox
      have rx : Rx w3 vx D := own_rd ox
      obtain ⟨ax, cx, rfl⟩ := own_shape ox
      have ra3 := ra.below' b3
      have rb3 := rb.below' b3
      have rc3 := rc.below' b3
      have rd3 := rd.below' b3
      have B3 := Br.trans (b3.mono Br.size)
      clear ox b3 ra rb rc rd Br
      go_wp2_with fail
      (with_reducible refine (fdiff_any _ _ b a _ rb3 ra3 (by omega) (by omega) OB.out.2.1 OA.out.2.1).mono ?_); rintro e w4 ⟨vy, rfl, oy, b4⟩
      rw [HDD2.out] at oy
      have ry : Rx w4 vy D := own_rd oy
      have rx4 := rx.below' b4
      have ra4 := ra3.below' b4
      have rb4 := rb3.below' b4
      have rc4 := rc3.below' b4
      have rd4 := rd3.below' b4
      have B4 := B3.trans (b4.mono B3.size)
      clear oy b4 rx ra3 rb3 rc3 rd3 B3
      go_wp2_with fail
      (with_reducible refine (equal_any _ _ a a _ rc4 rd4 (by omega) (by omega)).mono ?_); rintro e w5 ⟨rfl, b5⟩
      rw [show (a == a) = true by simp]
      have rx5 := rx4.below' b5
      have ry5 := ry.below' b5
      have ra5 := ra4.below' b5
      have rb5 := rb4.below' b5
      have rc5 := rc4.below' b5
      have rd5 := rd4.below' b5
      have B5 := B4.trans (b5.mono B4.size)
      clear b5 rx4 ry ra4 rb4 rc4 rd4 B4
      go_wp2_with fail
      (with_reducible refine (equal_any _ _ a a _ rc5 ra5 (by omega) (by omega)).mono ?_); rintro e w6 ⟨rfl, b6⟩
      rw [show (a == a) = true by simp]
      have rx6 := rx5.below' b6
      have ry6 := ry5.below' b6
      have ra6 := ra5.below' b6
      have rb6 := rb5.below' b6
      have rc6 := rc5.below' b6
      have rd6 := rd5.below' b6
      have B6 := B5.trans (b6.mono B5.size)
      clear b6 rx5 ry5 ra5 rb5 rc5 rd5 B5
      go_wp2_with fail
      (with_reducible refine (fsame_any _ _ a a _ rc6 rd6 (by omega) (by omega)).mono ?_); rintro e w7 ⟨rfl, b7⟩
      rw [show (a == a) = true by simp]
      have rx7 := rx6.below' b7
      have ry7 := ry6.below' b7
      have ra7 := ra6.below' b7
      have rb7 := rb6.below' b7
      have B7 := B6.trans (b7.mono B6.size)
      clear b7 rx6 ry6 ra6 rb6 rc6 rd6 B6
      go_wp2_with fail
      (with_reducible refine (words_any _ _ D D _ rx7 ry7 (by omega) (by omega)).mono ?_); rintro e w8 ⟨rfl, b8⟩
      rw [show (D == D) = true by simp]
      have ra8 := ra7.below' b8
      have rb8 := rb7.below' b8
      have B8 := B7.trans (b8.mono B7.size)
      clear b8 rx7 ry7 ra7 rb7 B7
      have h0 := H0.out
      go_wp2_with fail
      (with_reducible refine (fsame_any _ _ a b _ ra8 rb8 (by omega) (by omega)).mono ?_); rintro e w9 ⟨rfl, b9⟩
      rw [← HS.out]
      have ra9 := ra8.below' b9
      have rb9 := rb8.below' b9
      have B9 := B8.trans (b9.mono B8.size)
      clear b9 ra8 rb8 B8
      go_wp2_with fail
      (with_reducible refine (fsame_any _ _ a b _ ra9 rb9 (by omega) (by omega)).mono ?_); rintro e wa ⟨rfl, ba⟩
      rw [← HS.out]
      have raa := ra9.below' ba
      have rba := rb9.below' ba
      have Ba := B9.trans (ba.mono B9.size)
      clear ba ra9 rb9 B9
      go_wp2_with fail
      (with_reducible refine (fsame_any _ _ b a _ rba raa (by omega) (by omega)).mono ?_); rintro e wb ⟨rfl, bb⟩
      rw [HS2.out]
      have Bb := Ba.trans (bb.mono Ba.size)
      clear bb raa rba Ba
      go_wp2_with fail
      (with_reducible refine (fiFixed_any _).mono ?_); rintro e wc ⟨rfl, bc⟩
      go_wp2_with fail
      go_ret
      exact ⟨rfl, Bb.trans (bc.mono Bb.size)⟩

end Go.Proofs.Ytgpifaedcelnnaa
