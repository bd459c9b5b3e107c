/- Walks and plain laws, 7: The program's expansion: a step, walked. No condition. The program's Expand, walked. No condition. The library's Delete of one file; Drop. No condition. Right, of the program and of the reference. No condition. Get, Drop, Put of the reference. No condition. Put of the program. No condition. Put of the reference. No condition. -/
import Derived.Test.YtjfikkjaifdkiaaGreatDoorTe6
import Derived.Laws.ResultCell
import Derived.Deep.RegionLaw
import Derived.Lib.SliceRun
namespace Go.Proofs.YtjfikkjaifdkiaaGreatDoor
open Go.RowKit

/-- 'note', whatever is wrong. -/
theorem note_any {M : List (Nat × Obj)} {bw : Nat} {vf : Value} {fs : List Fl} {most : Nat} (w : World) (v : Value) (st : Ex.St) (o : Option (Int × List UInt8)) (h : Wk M w bw vf fs most st) (hv : Er w v o) (hg : Gl w) (hl : st.notes.length ≤ 1000000) (hb0 : 0 < bw) :
    Calls Tryz.prog 15 #[.pointer (some ⟨bw, 0, none⟩), v] w fun e w' => e = .returned (.tuple #[]) ∧ Wk M w' bw vf fs most (Ex.noteO st o) ∧ Below bw w w' := by
  cases o with
  | none =>
    have hv : v = .nilIface := hv
    subst hv
    exact (note_nil w h).mono fun _ _ ⟨a, b, c⟩ => ⟨a, b, c.mono (Nat.le_of_lt h.lt)⟩
  | some x => exact note_some x w h hv hg hl hb0
theorem noteO_le (st : Ex.St) (o : Option (Int × List UInt8)) : st.notes.length ≤ (Ex.noteO st o).notes.length := by
  cases o with
  | none => exact Nat.le_refl _
  | some x => show _ ≤ (st.notes ++ [_]).length; rw [List.length_append]; omega
theorem getM_le {most B T : Nat} {st : Ex.St} (h : Ex.Ok most B T st) (s : List UInt8) (hm : (getM st.macs s).2 = true) : 0 ≤ (getM st.macs s).1.2.1 ∧ (getM st.macs s).1.2.2.length ≤ B := by
  have h1 := h.mac _ (Ex.getM_mem hm).1
  exact ⟨h1.2.1, h1.2.2.2.1⟩
/-- A command. -/
theorem cmd_any {M : List (Nat × Obj)} {bw B T : Nat} {vf : Value} {fs : List Fl} {most : Nat} {st : Ex.St} (c : List UInt8 × Nat) (hc : c ∈ Ex.cmds) (w : World) (h : Wk M w bw vf fs most st) (hok : Ex.Ok most B T st) (hB : B ≤ 9000) (hmB : most ≤ B) (hT : T ≤ 1000000) (hfo : Fi.Ord fs) (hfl : fs.length ≤ 1000000) (hft : ∀ f ∈ fs, f.2.length ≤ T) (hfu : st.fuel + st.used ≤ 1000) :
    ∃ st9, Ex.cmd fs most st c.1 = some st9 ∧ Calls Tryz.prog c.2 #[.pointer (some ⟨bw, 0, none⟩), .string (S c.1)] w fun e w' => ∃ v st1 o, e = .returned v ∧ Wk M w' bw vf fs most st1 ∧ Er w' v o ∧ Below bw w w' ∧ Ex.noteO st1 o = st9 := by
  simp only [Ex.cmds, List.mem_cons, List.not_mem_nil, or_false] at hc
  rcases hc with rfl | rfl | rfl | rfl
  · exact ⟨_, rfl, def_any w h hok (by omega) hT⟩
  · exact ⟨_, rfl, undef_any w h hok (by omega)⟩
  · exact ⟨_, rfl, ifdef_any w h hok (by omega)⟩
  · exact ⟨_, rfl, incl_any w h hok (by omega) hmB hT hfo hfl hft hfu⟩
theorem cmd_enter (c : List UInt8 × Nat) (hc : c ∈ Ex.cmds) (a b : Value) (w : World) : (callFunc c.2 #[a, b]).run Tryz.prog w = .ok (.enter c.2 #[a, b]) w := by
  simp only [Ex.cmds, List.mem_cons, List.not_mem_nil, or_false] at hc
  rcases hc with rfl | rfl | rfl | rfl <;> kernel_rfl
theorem cmd_miss {fs : List Fl} {most : Nat} {st : Ex.St} {s : List UInt8} (h : s ≠ Ex.sDef ∧ s ≠ Ex.sUndef ∧ s ≠ Ex.sIfdef ∧ s ≠ Ex.sInc) : Ex.cmd fs most st s = if (getM st.macs s).2 = true then some (Ex.doCall most st (getM st.macs s).1) else none := by
  unfold Ex.cmd
  rw [if_neg h.1, if_neg h.2.1, if_neg h.2.2.1, if_neg h.2.2.2]
/-- A list of tokens does not lie in a macro's box. -/
theorem rt_mac {w : World} {b9 : Nat} {v : Value} {l : List Lx.Tok} (h : Rt w v l) {s : ByteArray} {p : Int} {a : Option Addr} {n c : Nat} (hb : Ro w b9 96 [.string s, .int .i64 p, .slice a n c]) (h0 : 0 < l.length) : ∀ b, v.ownBlock = some b → b ≠ b9 := by
  intro b hv e
  subst e
  rcases h.2 with ⟨_, h9⟩ | ⟨b', o, cap, rfl, hlt, hc, hcap⟩
  · omega
  · have e : b' = b := by simpa [Value.ownBlock] using hv
    subst e
    have h1 : (tcs l)[0]? = some (.int .i64 l[0].1) ∧ (tcs l)[1]? = some (.string (S l[0].2)) := by
      match l, h0 with
      | t :: r, _ => exact ⟨rfl, rfl⟩
    have h2 := hc 0 _ h1.1
    have h3 := hc 1 _ h1.2
    rw [row_cell hb] at h2 h3
    match o, h2, h3 with
    | 0, h2, _ => simp at h2
    | 1, _, h3 => simp at h3
    | 2, h2, _ => simp at h2
    | _ + 3, h2, _ => simp at h2
theorem ownsMap_keep {w w' : World} {P : Program} {k : TypeId} {R : Value → Option (DataW Unit × List MemPlace)} {b n : Nat} {D : DataW Unit} (h : w.ownsMap P k R b n D) (e : w'.heap[b]? = w.heap[b]?) : w'.ownsMap P k R b n D := by
  obtain ⟨es, c, h1, h2⟩ := h
  exact ⟨es, c, e.trans h1, h2⟩

/-- 'note', at a fault that stays. -/
theorem noteF_some {M : List (Nat × Obj)} {bw bf : Nat} {vf v : Value} {fs : List Fl} {most : Nat} {st : Ex.St} (x : Int × List UInt8) (w : World) (h : Wk M w bw vf fs most st) (hv : v = .iface 57 (.pointer (some ⟨bf, 0, none⟩))) (hrf : Ro w bf 59 [.string (S x.2), .int .i64 x.1]) (hg : Gl w) (hl : st.notes.length ≤ 1000000) (hb0 : 0 < bw) :
    Calls Tryz.prog 15 #[.pointer (some ⟨bw, 0, none⟩), v] w fun e w' => e = .returned (.tuple #[]) ∧ Wk M w' bw vf fs most (Ex.note st x.1 x.2) ∧ Below bw w w' ∧ w'.cell? ⟨bf, 1, none⟩ = some (.int .i64 x.1) := by
  have hno : ∃ vin vm vL vR vN ps, Ro w bw 53 [vf, vin, vm, .int .i64 (st.fuel : Int), .int .i64 (most : Int), vL, vR, vN, .int .i64 (st.used : Int)] ∧ Ws M w bw vf vin vm vL vR vN fs ps st ∧ ¬ Own4 bw vL vR vN bf := by
    obtain ⟨vin, vm, vL, vR, vN, ps, h1, h2⟩ := h
    refine ⟨vin, vm, vL, vR, vN, ps, h1, h2, ?_⟩
    rintro (e | e | e | e)
    · exact hrf.ne h1 (by decide) e
    · exact hrf.ne_own (by decide) h2.outL e
    · exact hrf.ne_own (by decide) h2.reads e
    · exact hrf.ne_own (by decide) h2.notes e
  obtain ⟨vin, vm, vL, vR, vN, ps, h1, h2, h3⟩ := hno
  have h9 : Wk ((bf, .cells #[.string (S x.2), .int .i64 x.1] 59 (0, 0)) :: M) w bw vf fs most st := ⟨vin, vm, vL, vR, vN, ps, h1, ⟨h2.files, h2.inn, h2.macs, h2.fst, h2.outL, h2.reads, h2.notes, h2.ffar, h2.ifar, h2.mfar, h2.bfar, fun y hy => by
    rcases List.mem_cons.1 hy with rfl | hy
    · exact ⟨hrf, h3⟩
    · exact h2.mp y hy⟩⟩
  exact (note_some x w h9 ⟨bf, hv, hrf⟩ hg hl hb0).mono fun _ _ ⟨a, b, c⟩ => ⟨a, b.less, c, by
    have h8 := b.obj (List.mem_cons_self ..)
    exact (show Ro _ bf 59 [.string (S x.2), .int .i64 x.1] from h8).cell (i := 1) rfl⟩

set_option maxRecDepth 20000 in
set_option maxHeartbeats 8000000 in
/-- 'step'. -/
theorem step_any {M : List (Nat × Obj)} {bw B T : Nat} {vf : Value} {fs : List Fl} {most : Nat} {st : Ex.St} (t : Lx.Tok) (bm : Nat) (w : World) (h : Wk M w bw vf fs most st) (hok : Ex.Ok most B T st) (hmap : w.ownsMap Tryz.prog 9 readF bm 4 exD) (hgl : Gl w) (hb0 : 0 < bw) (hB : B ≤ 9000) (hmB : most ≤ B) (hT : T ≤ 1000000) (hfo : Fi.Ord fs) (hfl : fs.length ≤ 1000000) (hft : ∀ f ∈ fs, f.2.length ≤ T) (hfu : st.fuel + st.used ≤ 1000) (hts : t.2.length ≤ T) (hnl : st.notes.length ≤ 500000) :
    Calls Tryz.prog 18 #[.pointer (some ⟨bw, 0, none⟩), .agg #[.int .i64 t.1, .string (S t.2)], .map (some bm)] w fun e w' => e = .returned (.bool (Ex.step fs most st t).2) ∧ Wk M w' bw vf fs most (Ex.step fs most st t).1 ∧ Below bw w w' := by
  obtain ⟨k, s⟩ := t
  have hts : s.length ≤ T := hts
  show Calls Tryz.prog 18 #[.pointer (some ⟨bw, 0, none⟩), .agg #[.int .i64 k, .string (S s)], .map (some bm)] w _
  obtain ⟨W0, hW0⟩ : ∃ W0, W0 = w.alloc (.cells #[.int .i64 k, .string (S s)] 64) := ⟨_, rfl⟩
  have hba : Below w.heap.size w W0 := by rw [hW0]; exact (Below.refl _ _).alloc (Nat.le_refl _) _
  have hg0 : Ro W0 w.heap.size 64 [.int .i64 k, .string (S s)] := by rw [hW0]; exact heap_alloc_new w _
  have x0 := hg0.cell (i := 0) rfl
  have x1 := hg0.cell (i := 1) rfl
  have HLT := Lib.hid h.lt
  have HK0 := Lib.hid (h.below hba)
  have HB0 : Hid (Below bw w W0) := Lib.hid (hba.mono (Nat.le_of_lt h.lt))
  have hown := ownsMap_keep hmap (hba.block bm hmap.lt)
  have HOK := Lib.hid hok
  have HGL := Lib.hid hgl
  have HW0 := Lib.hid hW0
  have HG0 := Lib.hid hg0
  have HOWN := Lib.hid hown
  have HX := Lib.hid (And.intro x0 x1)
  have HF := Lib.hid (And.intro hfo (And.intro hft hfu))
  clear h hok hmap hgl hba hW0 hg0 hown hfo hft hfu
  by_cases hk : k = 4
  · subst hk
    by_cases hc : ∃ c ∈ Ex.cmds, s = c.1
    · obtain ⟨c, hc, hsc⟩ := hc
      obtain ⟨st9, hcm, hcl⟩ := cmd_any c hc W0 HK0.out HOK.out hB hmB hT HF.out.1 hfl HF.out.2.1 HF.out.2.2
      rw [← hsc] at hcm hcl
      have HD : Hid (Ex.step fs most st (4, s) = (st9, true)) := Lib.hid (by unfold Ex.step; simp only; rw [if_pos trivial, hcm])
      have HNT : Hid (st9.notes.length ≤ st.notes.length + 1) := Lib.hid (Ex.lt_cmd HOK.out hmB HF.out.2.1 hcm).nts
      have hown := HOWN.out
      obtain ⟨cf, hcf⟩ : ∃ cf, cf = c.2 := ⟨_, rfl⟩
      have HCF : Hid (∀ a b w, (callFunc cf #[a, b]).run Tryz.prog w = .ok (.enter cf #[a, b]) w) := Lib.hid (by rw [hcf]; exact fun a b w => cmd_enter c hc a b w)
      rw [← hcf] at hcl
      have HCL := Lib.hid hcl
      have HC := Lib.hid hc
      have HCS := Lib.hid (And.intro hsc hcf)
      clear hcm hcl hc hsc hcf
      go_enter Tryz.func18, Tryz.ntmps18
      go_upto_region 1 with fail
      rw [← HW0.out]
      go_wp2_with (first
        | (at_lookup; refine wpX_hit _ rfl _ _ rfl bm rfl hown c (by rw [← HCS.out.1]; rfl) HC.out ?_; rw [← HCS.out.2]; clear hown)
        | (rw [HCF.out, Oper.upon_enter]
           (with_reducible refine HCL.out.mono ?_)
           rintro e w4 ⟨v, st1, o, rfl, k4, r4, b4, n4⟩
           have HK4 := Lib.hid k4
           have HB4 := Lib.hid b4
           have HN4 := Lib.hid (note_any w4 v st1 o k4 r4 (HGL.out.below hb0 (HB0.out.trans b4)) (by have h1 := noteO_le st1 o; rw [n4] at h1; have := HNT.out; omega) hb0)
           have HE4 := Lib.hid n4
           clear k4 r4 b4 n4)
        | (go_at_call 15
           (with_reducible refine HN4.out.mono ?_)
           rintro e w5 ⟨rfl, k5, b5⟩
           have HK5 := Lib.hid k5
           have HB5 := Lib.hid b5
           clear k5 b5)
        | fail)
      (try simp only [Exit.inBlock, Exit.then])
      go_ret
      rw [HD.out]
      exact ⟨rfl, by rw [← HE4.out]; exact HK5.out, HB0.out.trans (HB4.out.trans HB5.out)⟩
    · have hcs : s ≠ Ex.sDef ∧ s ≠ Ex.sUndef ∧ s ≠ Ex.sIfdef ∧ s ≠ Ex.sInc := ⟨fun e => hc ⟨(Ex.sDef, 35), by simp [Ex.cmds], e⟩, fun e => hc ⟨(Ex.sUndef, 36), by simp [Ex.cmds], e⟩, fun e => hc ⟨(Ex.sIfdef, 37), by simp [Ex.cmds], e⟩, fun e => hc ⟨(Ex.sInc, 38), by simp [Ex.cmds], e⟩⟩
      obtain ⟨mb, hmb⟩ : ∃ mb, mb = (getM st.macs s).2 := ⟨_, rfl⟩
      obtain ⟨mm, hmm⟩ : ∃ mm, mm = (getM st.macs s).1 := ⟨_, rfl⟩
      have HST : Hid (Ex.step fs most st (4, s) = if mb = true then (Ex.doCall most st mm, true) else Ex.put most st (4, s)) := Lib.hid (by
        unfold Ex.step
        simp only
        rw [if_pos trivial, cmd_miss hcs, ← hmb, ← hmm]
        cases mb <;> rfl)
      have HCM : Hid (mb = true → Ex.cmd fs most st s = some (Ex.doCall most st mm)) := Lib.hid fun e => by rw [cmd_miss hcs, ← hmb, ← hmm, if_pos e]
      have HGE : Hid (mb = true → 0 ≤ mm.2.1 ∧ mm.2.2.length ≤ B) := Lib.hid fun e => by rw [hmm]; exact getM_le HOK.out s (by rw [← hmb]; exact e)
      have hk0 := HK0.out
      obtain ⟨vin, vm, vL, vR, vN, ps, h1, h2⟩ := hk0
      have HM : Hid (∀ W', Below W0.heap.size W0 W' → Calls Tryz.prog 39 #[vm, .string (S s)] W' fun e w' => ∃ bv, e = .returned (.tuple #[.agg #[.string (S mm.1), .int .i64 mm.2.1, bv], .bool mb]) ∧ Rt w' bv mm.2.2 ∧ Below W'.heap.size W' w') := Lib.hid (fun W' hb => by
        have h9 := get_any vm ps s W' (h2.below hb).macs (by have := HOK.out.mln; rw [← h2.fst, List.length_map] at this; omega) (by have := HOK.out.srt; rw [← h2.fst, List.map_map] at this; exact this)
        rw [h2.fst, ← hmb, ← hmm] at h9
        exact h9)
      have c2 := h1.cell (i := 2) rfl
      have hownL := HOWN.out
      have HBX0 := Lib.hid HG0.out.lt
      have HKP : Hid (∀ W', Below W0.heap.size W0 W' → W'.cell? ⟨bw, 2, none⟩ = some vm ∧ W'.cell? ⟨w.heap.size, 1, none⟩ = some (.string (S s))) := Lib.hid fun W' hb => ⟨(hb.cell (p := ⟨bw, 2, none⟩) HK0.out.lt).trans c2, (hb.cell (p := ⟨w.heap.size, 1, none⟩) HBX0.out).trans x1⟩
      have HCS := Lib.hid hcs
      clear hmb hmm h1 h2 c2 hc hcs
      go_enter Tryz.func18, Tryz.ntmps18
      go_upto_region 1 with fail
      rw [← HW0.out]
      go_upto_region 6 with (first
        | (at_lookup; refine wpX_miss _ rfl _ _ rfl bm rfl hownL s rfl (by omega) HCS.out ?_; clear hownL)
        | fail)
      obtain ⟨d2, d0⟩ := HKP.out _ (Below.refl W0.heap.size W0)
      have bdr : Below W0.heap.size W0 W0.drew := below_drewN (Below.refl W0.heap.size W0) 1
      have ba : Below W0.heap.size W0 (W0.alloc (.cells #[.string (S []), .int .i64 0, .slice none 0 0] 96)).drew := below_drewN ((Below.refl _ _).alloc (Nat.le_refl _) _) 1
      have gm1 : (W0.alloc (.cells #[.string (S []), .int .i64 0, .slice none 0 0] 96)).drew.heap[W0.heap.size]? = some (.cells #[.string (S []), .int .i64 0, .slice none 0 0] 96 (0, 0)) := heap_alloc_new W0 _
      have HS3 : Hid (∀ (W' : World) (n : Nat) (u1 u2 u3 : Value), Below W0.heap.size W0 W' → W0.heap.size ≤ n → Below W0.heap.size W0 (((W'.setCell ⟨n, 0, none⟩ u1).setCell ⟨n, 1, none⟩ u2).setCell ⟨n, 2, none⟩ u3)) := Lib.hid fun W' n u1 u2 u3 hb hn => by
        have a1 := hb.trans ((Kw.set W' n 0 u1).below (fun j e => by omega) hb.size)
        have a2 := a1.trans ((Kw.set _ n 1 u2).below (fun j e => by omega) a1.size)
        exact a2.trans ((Kw.set _ n 2 u3).below (fun j e => by omega) a2.size)
      go_cut [9, 10] (fun v9 v10 w' => v10 = .bool mb ∧ ∃ (a9 : Nat) (bv : Value), v9 = .pointer (some ⟨a9, 0, none⟩) ∧ Hid (Below W0.heap.size W0 w') ∧ Hid (Ro w' a9 96 [.string (S mm.1), .int .i64 mm.2.1, bv]) ∧ Hid (Rt w' bv mm.2.2))
      case first =>
        go_region_held3 (fun w' => w'.cell? ⟨bw, 2, none⟩ = some vm ∧ w'.cell? ⟨w.heap.size, 1, none⟩ = some (.string (S s)))
          (first
            | exact HKP.out _ (Below.refl _ _)
            | exact HKP.out _ bdr
            | exact HKP.out _ b2
            | exact HKP.out _ (b2.alloc b2.size _)
            | exact HKP.out _ ba
            | exact HKP.out _ (HS3.out _ _ _ _ _ b2 (Nat.le_refl _))
            | exact HKP.out _ (HS3.out _ _ _ _ _ (b2.alloc b2.size _) b2.size)
            | go_keep
            | fail)
          (first
            | (go_at_call 39; (with_reducible refine (HM.out _ ba).mono ?_); rintro e w2 ⟨bv, rfl, rbv, b29⟩; have b2 := ba.trans (b29.mono ba.size); obtain ⟨abv, cbv, hbv⟩ := rbv.shape; subst hbv; have gm2 := (b29.block _ (row_lt gm1)).trans gm1; have q2 := b29.size; have z0 : w2.cell? ⟨W0.heap.size, 0, none⟩ = some (.string (S [])) := row_cell gm2 0; have z1 : w2.cell? ⟨W0.heap.size, 1, none⟩ = some (.int .i64 0) := row_cell gm2 1; have z2 : w2.cell? ⟨W0.heap.size, 2, none⟩ = some (.slice none 0 0) := row_cell gm2 2; have f0 := row_free gm2 0; have f1 := row_free gm2 1; have f2 := row_free gm2 2)
            | (go_at_call 39; (with_reducible refine (HM.out W0.drew bdr).mono ?_); rintro e w2 ⟨bv, rfl, rbv, b29⟩; have b2 := bdr.trans (b29.mono bdr.size); obtain ⟨abv, cbv, hbv⟩ := rbv.shape; subst hbv; have q2 := b2.size; have gm3 := heap_alloc_new w2 (.cells #[.string (S []), .int .i64 0, .slice none 0 0] 96); have z0 : (w2.alloc (.cells #[.string (S []), .int .i64 0, .slice none 0 0] 96)).cell? ⟨w2.heap.size, 0, none⟩ = some (.string (S [])) := row_cell gm3 0; have z1 : (w2.alloc (.cells #[.string (S []), .int .i64 0, .slice none 0 0] 96)).cell? ⟨w2.heap.size, 1, none⟩ = some (.int .i64 0) := row_cell gm3 1; have z2 : (w2.alloc (.cells #[.string (S []), .int .i64 0, .slice none 0 0] 96)).cell? ⟨w2.heap.size, 2, none⟩ = some (.slice none 0 0) := row_cell gm3 2; have f0 := row_free gm3 0; have f1 := row_free gm3 1; have f2 := row_free gm3 2)
            | fail)
        all_goals (try go_wp2_with fail)
        all_goals (go_meet; first
          | exact ⟨rfl, _, _, rfl, Lib.hid (HS3.out _ _ _ _ _ b2 (Nat.le_refl _)), Lib.hid (((show Ro w2 W0.heap.size 96 [.string (S []), .int .i64 0, .slice none 0 0] from gm2).set 0 _).set 1 _ |>.set 2 _), Lib.hid (Rd.keep rbv (((Kw.set w2 W0.heap.size 0 _).trans (Kw.set _ W0.heap.size 1 _) fun j _ e => e).trans (Kw.set _ W0.heap.size 2 _) fun j _ e => e) fun h0 b hb e => rt_mac rbv (show Ro w2 W0.heap.size 96 [.string (S []), .int .i64 0, .slice none 0 0] from gm2) h0 b hb e)⟩
          | exact ⟨rfl, _, _, rfl, Lib.hid (b2.alloc b2.size _), Lib.hid (heap_alloc_new w2 _), Lib.hid (rbv.below' ((Below.refl _ _).alloc (Nat.le_refl _) _))⟩)
      case rest =>
        obtain ⟨rfl, a9, bv, rfl, HB3, HR3, HRT3⟩ := hcut
        rename World => W3
        clear HM HKP HS3 d2 d0 gm1 ba bdr
        have HK3 := Lib.hid (HK0.out.below HB3.out)
        have HBW3 : Hid (Below bw w W3) := Lib.hid (HB0.out.trans (HB3.out.mono (Nat.le_of_lt HK0.out.lt)))
        have hg3 := HG0.out.kw (Kw.of_below HB3.out) (by have := HBX0.out; omega)
        have g0 := hg3.cell (i := 0) rfl
        have g1 := hg3.cell (i := 1) rfl
        have HG3 := Lib.hid (And.intro g0 g1)
        obtain ⟨abv, cbv, hbv⟩ := HRT3.out.shape
        subst hbv
        have m0 := HR3.out.cell (i := 0) rfl
        have m1 := HR3.out.cell (i := 1) rfl
        have m2 := HR3.out.cell (i := 2) rfl
        clear hg3 x0 x1
        cases mb
        · have HSTEP : Hid (Ex.step fs most st (4, s) = Ex.put most st (4, s)) := Lib.hid (by rw [HST.out, if_neg (by decide)])
          have HOKL := HOK.out.out
          obtain ⟨k, hkk⟩ : ∃ k : Int, k = 4 := ⟨_, rfl⟩
          go_upto_region 10 with fail
          obtain ⟨WP, hWP⟩ : ∃ WP, WP = W3 := ⟨_, rfl⟩
          have HKP := Lib.hid (show Wk M WP bw vf fs most st by rw [hWP]; exact HK3.out)
          have HBP : Hid (Below bw w WP) := Lib.hid (by rw [hWP]; exact HBW3.out)
          have p0 : WP.cell? ⟨w.heap.size, 0, none⟩ = some (.int .i64 4) := by rw [hWP]; exact HG3.out.1
          have p1 : WP.cell? ⟨w.heap.size, 1, none⟩ = some (.string (S s)) := by rw [hWP]; exact HG3.out.2
          rw [← hWP]
          clear hWP
          by_cases hpl : most ≤ st.outL.length
          · have HD : Hid (Ex.step fs most st (4, s) = (Ex.note st 3 [], false)) := Lib.hid (by rw [HSTEP.out]; unfold Ex.put; rw [if_pos hpl])
            have HPN := Lib.hid (put_none (4, s) WP HKP.out hpl)
            go_wp2_with (first
              | (go_at_call 41
                 (with_reducible refine HPN.out.mono ?_)
                 rintro e w4 ⟨v, rfl, k4, r4, b4⟩
                 obtain ⟨bf, hve, hrf⟩ := r4
                 subst hve
                 have hbf : WP.heap.size ≤ bf ∨ bf < WP.heap.size := by omega
                 have HRF := Lib.hid hrf
                 have HK4 := Lib.hid k4
                 have HB4 : Hid (Below bw WP w4) := Lib.hid (b4.mono (Nat.le_of_lt HKP.out.lt))
                 have HN4 := Lib.hid (noteF_some (3, []) w4 k4 rfl hrf (HGL.out.below hb0 (HBP.out.trans HB4.out)) (by have := hnl; omega) hb0)
                 clear k4 b4 hrf)
              | (go_at_call 15
                 (with_reducible refine HN4.out.mono ?_)
                 rintro e w5 ⟨rfl, k5, b5, f5⟩
                 have HK5 := Lib.hid k5
                 have HB5 := Lib.hid b5
                 have c5 : w5.cell? ⟨bf, 1, none⟩ = some (.int .i64 3) := f5
                 have HIS := Lib.hid (is_big bf w5 c5)
                 clear k5 b5 f5)
              | (go_at_call 42
                 (with_reducible refine HIS.out.mono ?_)
                 rintro e w6 ⟨rfl, h6⟩
                 replace h6 := h6.symm
                 subst h6)
              | fail)
            (try simp only [Exit.inBlock, Exit.then])
            go_ret
            rw [HD.out]
            exact ⟨rfl, HK5.out, HBP.out.trans (HB4.out.trans HB5.out)⟩
          · have HD : Hid (Ex.step fs most st (4, s) = ({ st with outL := st.outL ++ [(4, s)] }, true)) := Lib.hid (by rw [HSTEP.out]; unfold Ex.put; rw [if_neg hpl])
            have HPN := Lib.hid (put_some (4, s) WP HKP.out (by omega) (by omega))
            go_wp2_with (first
              | (go_at_call 41
                 (with_reducible refine HPN.out.mono ?_)
                 rintro e w4 ⟨rfl, k4, b4⟩
                 have HB4 := Lib.hid b4
                 have HN4 := Lib.hid (note_nil w4 k4)
                 have HL4 := Lib.hid k4.lt
                 clear k4 b4)
              | (go_at_call 15
                 (with_reducible refine HN4.out.mono ?_)
                 rintro e w5 ⟨rfl, k5, b5⟩
                 have HK5 := Lib.hid k5
                 have HB5 := Lib.hid (b5.mono (Nat.le_of_lt HL4.out))
                 have HIS := Lib.hid (is_nil 3 w5)
                 clear k5 b5)
              | (go_at_call 42
                 (with_reducible refine HIS.out.mono ?_)
                 rintro e w6 ⟨rfl, h6⟩
                 replace h6 := h6.symm
                 subst h6)
              | fail)
            (try simp only [Exit.inBlock, Exit.then])
            go_ret
            rw [HD.out]
            exact ⟨rfl, HK5.out, HBP.out.trans (HB4.out.trans HB5.out)⟩
        · have HD : Hid (Ex.step fs most st (4, s) = (Ex.doCall most st mm, true)) := Lib.hid (by rw [HST.out, if_pos rfl])
          have HNT : Hid ((Ex.doCall most st mm).notes.length ≤ st.notes.length + 1) := Lib.hid (Ex.lt_cmd HOK.out hmB HF.out.2.1 (HCM.out rfl)).nts
          have HCL := Lib.hid (call_any mm _ W3 HK3.out HOK.out hB hmB HF.out.2.2 HRT3.out (HGE.out rfl).1 (HGE.out rfl).2)
          go_wp2_with (first
            | (go_at_call 40
               (with_reducible refine HCL.out.mono ?_)
               rintro e w4 ⟨v, st1, o, rfl, k4, r4, b4, n4⟩
               have HK4 := Lib.hid k4
               have HB4 := Lib.hid b4
               have HN4 := Lib.hid (note_any w4 v st1 o k4 r4 (HGL.out.below hb0 (HBW3.out.trans b4)) (by have h1 := noteO_le st1 o; rw [n4] at h1; have := HNT.out; omega) hb0)
               have HE4 := Lib.hid n4
               clear k4 r4 b4 n4)
            | (go_at_call 15
               (with_reducible refine HN4.out.mono ?_)
               rintro e w5 ⟨rfl, k5, b5⟩
               have HK5 := Lib.hid k5
               have HB5 := Lib.hid b5
               clear k5 b5)
            | fail)
          (try simp only [Exit.inBlock, Exit.then])
          go_ret
          rw [HD.out]
          exact ⟨rfl, by rw [← HE4.out]; exact HK5.out, HBW3.out.trans (HB4.out.trans HB5.out)⟩
  · have HSTEP : Hid (Ex.step fs most st (k, s) = Ex.put most st (k, s)) := Lib.hid (by unfold Ex.step; rw [if_neg hk])
    have hkk : ((k : Int) == 4) = false := by simpa using hk
    go_enter Tryz.func18, Tryz.ntmps18
    go_upto_region 1 with fail
    rw [← HW0.out]
    go_upto_region 10 with fail
    obtain ⟨WP, hWP⟩ : ∃ WP, WP = W0 := ⟨_, rfl⟩
    have HKP := Lib.hid (show Wk M WP bw vf fs most st by rw [hWP]; exact HK0.out)
    have HBP : Hid (Below bw w WP) := Lib.hid (by rw [hWP]; exact HB0.out)
    have p0 : WP.cell? ⟨w.heap.size, 0, none⟩ = some (.int .i64 k) := by rw [hWP]; exact HX.out.1
    have p1 : WP.cell? ⟨w.heap.size, 1, none⟩ = some (.string (S s)) := by rw [hWP]; exact HX.out.2
    rw [← hWP]
    clear hWP
    by_cases hpl : most ≤ st.outL.length
    · have HD : Hid (Ex.step fs most st (k, s) = (Ex.note st 3 [], false)) := Lib.hid (by rw [HSTEP.out]; unfold Ex.put; rw [if_pos hpl])
      have HPN := Lib.hid (put_none (k, s) WP HKP.out hpl)
      go_wp2_with (first
        | (go_at_call 41
           (with_reducible refine HPN.out.mono ?_)
           rintro e w4 ⟨v, rfl, k4, r4, b4⟩
           obtain ⟨bf, hve, hrf⟩ := r4
           subst hve
           have hbf : WP.heap.size ≤ bf ∨ bf < WP.heap.size := by omega
           have HRF := Lib.hid hrf
           have HK4 := Lib.hid k4
           have HB4 : Hid (Below bw WP w4) := Lib.hid (b4.mono (Nat.le_of_lt HKP.out.lt))
           have HN4 := Lib.hid (noteF_some (3, []) w4 k4 rfl hrf (HGL.out.below hb0 (HBP.out.trans HB4.out)) (by have := hnl; omega) hb0)
           clear k4 b4 hrf)
        | (go_at_call 15
           (with_reducible refine HN4.out.mono ?_)
           rintro e w5 ⟨rfl, k5, b5, f5⟩
           have HK5 := Lib.hid k5
           have HB5 := Lib.hid b5
           have c5 : w5.cell? ⟨bf, 1, none⟩ = some (.int .i64 3) := f5
           have HIS := Lib.hid (is_big bf w5 c5)
           clear k5 b5 f5)
        | (go_at_call 42
           (with_reducible refine HIS.out.mono ?_)
           rintro e w6 ⟨rfl, h6⟩
           replace h6 := h6.symm
           subst h6)
        | fail)
      (try simp only [Exit.inBlock, Exit.then])
      go_ret
      rw [HD.out]
      exact ⟨rfl, HK5.out, HBP.out.trans (HB4.out.trans HB5.out)⟩
    · have HD : Hid (Ex.step fs most st (k, s) = ({ st with outL := st.outL ++ [(k, s)] }, true)) := Lib.hid (by rw [HSTEP.out]; unfold Ex.put; rw [if_neg hpl])
      have HPN := Lib.hid (put_some (k, s) WP HKP.out (by omega) (by omega))
      go_wp2_with (first
        | (go_at_call 41
           (with_reducible refine HPN.out.mono ?_)
           rintro e w4 ⟨rfl, k4, b4⟩
           have HB4 := Lib.hid b4
           have HN4 := Lib.hid (note_nil w4 k4)
           have HL4 := Lib.hid k4.lt
           clear k4 b4)
        | (go_at_call 15
           (with_reducible refine HN4.out.mono ?_)
           rintro e w5 ⟨rfl, k5, b5⟩
           have HK5 := Lib.hid k5
           have HB5 := Lib.hid (b5.mono (Nat.le_of_lt HL4.out))
           have HIS := Lib.hid (is_nil 3 w5)
           clear k5 b5)
        | (go_at_call 42
           (with_reducible refine HIS.out.mono ?_)
           rintro e w6 ⟨rfl, h6⟩
           replace h6 := h6.symm
           subst h6)
        | fail)
      (try simp only [Exit.inBlock, Exit.then])
      go_ret
      rw [HD.out]
      exact ⟨rfl, HK5.out, HBP.out.trans (HB4.out.trans HB5.out)⟩
end Go.Proofs.YtjfikkjaifdkiaaGreatDoor

namespace Go.Proofs.YtjfikkjaifdkiaaGreatDoor
open Go.RowKit

/-! ### fuel -/
theorem fu_note (st : Ex.St) (e : Int) (s : List UInt8) : (Ex.note st e s).fuel = st.fuel ∧ (Ex.note st e s).used = st.used := ⟨rfl, rfl⟩
theorem fu_come (most : Nat) (st : Ex.St) (s : List UInt8) (l : List Lx.Tok) : (Ex.come most st s l).fuel = st.fuel ∧ (Ex.come most st s l).used = st.used := by
  unfold Ex.come
  split <;> exact ⟨rfl, rfl⟩
theorem fu_ask (st : Ex.St) (s : List UInt8) : (Ex.ask st s).fuel = st.fuel ∧ (Ex.ask st s).used = st.used := by
  unfold Ex.ask
  split <;> exact ⟨rfl, rfl⟩
theorem fu_cmd {fs : List Fl} {most : Nat} {st st' : Ex.St} {s : List UInt8} (h : Ex.cmd fs most st s = some st') : st'.fuel + st'.used = st.fuel + st.used := by
  unfold Ex.cmd at h
  split at h
  · injection h with h; subst h
    unfold Ex.doDef
    split
    · rfl
    · split
      · split <;> rfl
      · rfl
  · split at h
    · injection h with h; subst h
      unfold Ex.doUndef
      split <;> rfl
    · split at h
      · injection h with h; subst h
        unfold Ex.doIfdef
        split <;> rfl
      · split at h
        · injection h with h; subst h
          unfold Ex.doInclude
          split
          · rfl
          · unfold Ex.incl
            split
            · rfl
            · split
              · rfl
              · split
                · rfl
                · rename_i hf
                  have hf : ¬ st.fuel = 0 := hf
                  split
                  · show (Ex.ask (Ex.burnt _) _).fuel + (Ex.ask (Ex.burnt _) _).used = _
                    rw [(fu_ask _ _).1, (fu_ask _ _).2]
                    show st.fuel - 1 + (st.used + 1) = _
                    omega
                  · rw [(fu_come _ _ _ _).1, (fu_come _ _ _ _).2, (fu_ask _ _).1, (fu_ask _ _).2]
                    show st.fuel - 1 + (st.used + 1) = _
                    omega
        · split at h
          · injection h with h; subst h
            unfold Ex.doCall
            split
            · rfl
            · split
              · rfl
              · rename_i hf
                rw [(fu_come _ _ _ _).1, (fu_come _ _ _ _).2]
                show st.fuel - 1 + (st.used + 1) = _
                omega
          · cases h
theorem fu_step (fs : List Fl) (most : Nat) (st : Ex.St) (t : Lx.Tok) : (Ex.step fs most st t).1.fuel + (Ex.step fs most st t).1.used = st.fuel + st.used := by
  have hp : ∀ t, (Ex.put most st t).1.fuel + (Ex.put most st t).1.used = st.fuel + st.used := fun t => by
    unfold Ex.put
    split <;> rfl
  unfold Ex.step
  split
  · cases hc : Ex.cmd fs most st t.2 with
    | some st' => exact fu_cmd hc
    | none => exact hp t
  · exact hp t
theorem run_nil {fs : List Fl} {most n : Nat} {st : Ex.St} (h : st.inn = []) : Ex.run fs most n st = st := by
  cases n with
  | zero => rfl
  | succ n => rw [Ex.run, h]
theorem run_cons {fs : List Fl} {most n : Nat} {st : Ex.St} {t : Lx.Tok} {r : List Lx.Tok} (h : st.inn = t :: r) : Ex.run fs most (n + 1) st = if (Ex.step fs most { st with inn := r } t).2 = true then Ex.run fs most n (Ex.step fs most { st with inn := r } t).1 else (Ex.step fs most { st with inn := r } t).1 := by
  rw [Ex.run, h]
/-- The first one. -/
theorem Wk.first {M : List (Nat × Obj)} {w : World} {bw : Nat} {vf : Value} {fs : List Fl} {most : Nat} {st : Ex.St} {t : Lx.Tok} {r : List Lx.Tok} (h : Wk M w bw vf fs most st) (hi : st.inn = t :: r) :
    ∃ b o ci, w.cell? ⟨bw, 1, none⟩ = some (.slice (some ⟨b, o, none⟩) (r.length + 1) ci) ∧ w.frozen? ⟨bw, 1, none⟩ = false ∧ r.length + 1 ≤ ci ∧ w.cell? ⟨b, o, none⟩ = some (.int .i64 t.1) ∧ w.cell? ⟨b, o + 1, none⟩ = some (.string (S t.2)) ∧ b < w.heap.size := by
  obtain ⟨vin, vm, vL, vR, vN, ps, h1, h2⟩ := h
  have h3 := h2.inn
  rw [hi] at h3
  rcases h3.2 with ⟨_, h9⟩ | ⟨b, o, ci, hv, hlt, hc, hcap⟩
  · cases h9
  · subst hv
    exact ⟨b, o, ci, h1.cell (i := 1) rfl, h1.free 1, hcap, hc 0 _ rfl, hc 1 _ rfl, hlt (by simp)⟩

/-- What a text is at the start. -/
theorem ok_start {fs : List Fl} {main : List UInt8} {fuel most T : Nat} (hft : ∀ f ∈ fs, f.2.length ≤ T) : Ex.Ok most (most + (Ex.start fs main fuel).inn.length) T (Ex.start fs main fuel) := by
  have hr : ∀ s, (Ex.ask (Ex.zero fuel) s).reads = [s] := fun s => by
    unfold Ex.ask
    rw [if_neg (by simp [Ex.zero])]
    rfl
  unfold Ex.start
  split
  · refine ⟨Nat.le_add_left _ _, fun t ht => Nat.le_trans (lex_each _ t ht) (get_len hft main), ?_, ?_, ?_, ?_, ?_⟩
    · unfold Ex.ask; split <;> (intro m hm; cases hm)
    · unfold Ex.ask; split <;> exact List.Pairwise.nil
    · unfold Ex.ask; split <;> exact Nat.zero_le _
    · show (Ex.ask (Ex.zero fuel) main).reads.length ≤ 32
      rw [hr]; simp
    · unfold Ex.ask; split <;> exact Nat.zero_le _
  · refine ⟨Nat.le_add_left _ _, ?_, ?_, ?_, ?_, ?_, ?_⟩
    · unfold Ex.ask; split <;> (intro m hm; cases hm)
    · unfold Ex.ask; split <;> (intro m hm; cases hm)
    · unfold Ex.ask; split <;> exact List.Pairwise.nil
    · unfold Ex.ask; split <;> exact Nat.zero_le _
    · show (Ex.ask (Ex.zero fuel) main).reads.length ≤ 32
      rw [hr]; simp
    · unfold Ex.ask; split <;> exact Nat.zero_le _
theorem ask_zero (fuel : Nat) (s : List UInt8) : Ex.ask (Ex.zero fuel) s = { Ex.zero fuel with reads := [s] } := by
  unfold Ex.ask
  rw [if_neg (by simp [Ex.zero])]
  rfl

set_option maxRecDepth 20000 in
set_option maxHeartbeats 16000000 in
/-- 'Expand'. -/
theorem expand_any (vf : Value) (fs : List Fl) (main : List UInt8) (fuel most : Nat) (w : World) (hf : Rf w vf fs) (hfo : Fi.Ord fs) (hfl : fs.length ≤ 1000) (hft : ∀ f ∈ fs, f.2.length ≤ 1000) (hfu : fuel ≤ 100) (hmo : most ≤ 1000) (hgl : Gl w) (hw0 : 0 < w.heap.size) :
    Calls Tryz.prog 7 #[vf, .string (S main), .int .i64 (fuel : Int), .int .i64 (most : Int)] w fun e w' => ∃ vL vR vN, e = .returned (.tuple #[.agg #[vL, vR, vN, .int .i64 ((Ex.expand fs main fuel most).used : Int)], .int .i64 0]) ∧
      w'.ownsRow (w.heap.size + 1) 64 2 vL (Ex.expand fs main fuel most).outL.length (tcs (Ex.expand fs main fuel most).outL) ∧ w'.ownsRow (w.heap.size + 1) 9 1 vR (Ex.expand fs main fuel most).reads.length (xcs (Ex.expand fs main fuel most).reads) ∧
      w'.ownsRow (w.heap.size + 1) 81 2 vN (Ex.expand fs main fuel most).notes.length (tcs (Ex.expand fs main fuel most).notes) ∧ Below w.heap.size w w' := by
  obtain ⟨af, cf, hvf⟩ := hf.shape
  subst hvf
  obtain ⟨nf, hnf⟩ : ∃ nf, nf = fs.length := ⟨_, rfl⟩
  have hf9 := hf
  rw [← hnf] at hf9 ⊢
  obtain ⟨W1, hW1⟩ : ∃ W1, W1 = w.alloc (.cells #[.slice none 0 0, .slice none 0 0, .slice none 0 0, .int .i64 0] 31) := ⟨_, rfl⟩
  obtain ⟨W2, hW2⟩ : ∃ W2, W2 = W1.alloc (.cells #[.slice af nf cf, .slice none 0 0, .slice none 0 0, .int .i64 (fuel : Int), .int .i64 (most : Int), .slice none 0 0, .slice none 0 0, .slice none 0 0, .int .i64 0] 53) := ⟨_, rfl⟩
  obtain ⟨b8, hb8⟩ : ∃ b8, b8 = w.heap.size := ⟨_, rfl⟩
  have hs1 : W1.heap.size = b8 + 1 := by rw [hW1, hb8]; simp
  have hs2 : W2.heap.size = b8 + 2 := by rw [hW2]; simp; omega
  have hb1 : Below w.heap.size w W1 := by rw [hW1]; exact (Below.refl _ _).alloc (Nat.le_refl _) _
  have hb12 : Below W1.heap.size W1 W2 := by rw [hW2]; exact (Below.refl _ _).alloc (Nat.le_refl _) _
  have hb2 : Below w.heap.size w W2 := hb1.trans (hb12.mono hb1.size)
  have hr8 : Ro W1 b8 31 [.slice none 0 0, .slice none 0 0, .slice none 0 0, .int .i64 0] := by rw [hW1, hb8]; exact heap_alloc_new w _
  have hr9 : Ro W2 (b8 + 1) 53 [.slice af nf cf, .slice none 0 0, .slice none 0 0, .int .i64 (fuel : Int), .int .i64 (most : Int), .slice none 0 0, .slice none 0 0, .slice none 0 0, .int .i64 0] := by rw [hW2, ← hs1]; exact heap_alloc_new W1 _
  have hno : ∀ v b, v = Value.slice none 0 0 → v.ownBlock = some b → False := fun v b e h => by subst e; cases h
  have hwk : Wk [] W2 (b8 + 1) (.slice af nf cf) fs most (Ex.zero fuel) := by
    refine ⟨.slice none 0 0, .slice none 0 0, .slice none 0 0, .slice none 0 0, .slice none 0 0, [], hr9, ?_, ⟨rfl, .inl ⟨.inl rfl, rfl⟩⟩, ⟨⟨rfl, .inl ⟨.inl rfl, rfl⟩⟩, fun p hp => (by cases hp)⟩, rfl, World.ownsRow_nil _ _ _ _, World.ownsRow_nil _ _ _ _, World.ownsRow_nil _ _ _ _, ?_, fun h => absurd h (by simp [Ex.zero]), fun h => absurd h (by simp), fun p hp => (by cases hp), fun x hx => (by cases hx)⟩
    · have := hf9.below' hb2
      exact this
    · intro h0 b hb
      have hlt : b < b8 := by
        rcases hf.2 with ⟨_, h9⟩ | ⟨b', o, cap, hv, hlt, _, _⟩
        · omega
        · rw [hnf, hv] at hb
          have e : b' = b := by simpa [Value.ownBlock] using hb
          rw [← e, hb8]
          exact hlt h0
      refine ⟨by omega, ?_⟩
      rintro (e | e | e | e)
      · omega
      · exact hno _ _ rfl e
      · exact hno _ _ rfl e
      · exact hno _ _ rfl e
  have HWK := Lib.hid hwk
  have HB12 := Lib.hid hb12
  have HB1 := Lib.hid hb1
  have HR8 := Lib.hid hr8
  have HSZ := Lib.hid (And.intro hs1 hs2)
  have HF := Lib.hid (And.intro hfo (And.intro hfl hft))
  have hgl2 : Gl W2 := hgl.below hw0 hb2
  have HGL := Lib.hid hgl2
  have HW1 := Lib.hid hW1
  have HW2 := Lib.hid hW2
  have HB8 := Lib.hid hb8
  have HOK := Lib.hid (ok_start (fs := fs) (main := main) (fuel := fuel) (most := most) hft)
  obtain ⟨gt, hgt⟩ : ∃ gt, gt = (Fi.get fs main).1 := ⟨_, rfl⟩
  obtain ⟨gb, hgb⟩ : ∃ gb, gb = (Fi.get fs main).2 := ⟨_, rfl⟩
  have hgl9 : gt.length ≤ 1000 := by rw [hgt]; exact get_len hft main
  have HAK := Lib.hid (ask_any main W2 hwk hfo (by omega) (by simp [Ex.zero]))
  rw [← hgt, ← hgb] at HAK
  have HST : Hid (Ex.start fs main fuel = if gb = true then { Ex.ask (Ex.zero fuel) main with inn := Lx.lex gt } else Ex.note (Ex.ask (Ex.zero fuel) main) 4 main) := Lib.hid (by rw [hgt, hgb]; rfl)
  have HNOT : Hid (gb = false → gt = []) := Lib.hid fun e => by
    rw [hgt]
    rw [hgb] at e
    unfold Fi.get at e ⊢
    cases hc : fs.find? fun f => f.1 == main with
    | none => rfl
    | some f => rw [hc] at e; cases e
  obtain ⟨sta, hsta⟩ : ∃ sta, sta = Ex.ask (Ex.zero fuel) main := ⟨_, rfl⟩
  rw [← hsta] at HAK HST
  have HSTA : Hid (sta.fuel + sta.used ≤ 100 ∧ sta.notes = [] ∧ sta.inn = []) := Lib.hid (by rw [hsta, ask_zero]; exact ⟨hfu, rfl, rfl⟩)
  obtain ⟨E, hE⟩ : ∃ E, E = Ex.expand fs main fuel most := ⟨_, rfl⟩
  rw [← hE]
  have HE : Hid (E = Ex.run fs most (Ex.mu (most + (Ex.start fs main fuel).inn.length) (Ex.start fs main fuel)) (Ex.start fs main fuel)) := Lib.hid hE
  have l0 : ¬ ((fuel : Int) < 0) := by omega
  have l1 : ¬ (1000 < (fuel : Int)) := by omega
  have l2 : ¬ ((most : Int) < 0) := by omega
  have l3 : ¬ (20000 < (most : Int)) := by omega
  clear hf hf9 hfo hfl hft hgl hgl2 hW1 hW2 hs1 hs2 hb1 hb12 hb2 hr8 hr9 hno hwk hgt hgb hsta hnf hE
  rw [← hb8]
  clear hb8
  cases gb
  · have HCUT := Lib.hid (HNOT.out rfl)
    rw [if_neg (by decide)] at HST
    go_enter Tryz.func7, Tryz.ntmps7
    go_upto_region 3 with fail
    rw [← HW1.out]
    rw [← HB8.out]
    go_upto_region 4 with fail
    rw [show W1.heap.size = b8 + 1 from HSZ.out.1, ← HW2.out]
    go_upto_region 6 with (first
      | (go_at_call 14; (with_reducible refine HAK.out.mono ?_); rintro e WZ ⟨rfl, kz, bz⟩; have HKZ := Lib.hid kz; have HBZ := Lib.hid bz; clear kz bz)
      | fail)
    have hbq : Below WZ.heap.size WZ (WZ.alloc (.cells #[.string (S main), .int .i64 4] 59)) := (Below.refl _ _).alloc (Nat.le_refl _) _
    have HNQ := Lib.hid (note_some (4, main) (WZ.alloc (.cells #[.string (S main), .int .i64 4] 59)) (HKZ.out.below hbq) ⟨WZ.heap.size, rfl, heap_alloc_new WZ _⟩ (HGL.out.below (by omega) (HBZ.out.trans (hbq.mono (Nat.le_of_lt HKZ.out.lt)))) (by rw [HSTA.out.2.1]; simp) (by omega))
    have HBQ := Lib.hid (HBZ.out.trans (hbq.mono (Nat.le_of_lt HKZ.out.lt)))
    clear hbq
    go_upto_region 7 with (first
      | (go_at_call 15; (with_reducible refine HNQ.out.mono ?_); rintro e WX ⟨rfl, kx, bx⟩; have HKX := Lib.hid kx; have HBX := Lib.hid (HBQ.out.trans bx); clear kx bx)
      | fail)
    obtain ⟨stx, hstx⟩ : ∃ stx, stx = Ex.note sta 4 main := ⟨_, rfl⟩
    have hxi : stx.inn = [] := by rw [hstx]; exact HSTA.out.2.2
    have HKX := Lib.hid (show Wk [] WX (b8 + 1) (.slice af nf cf) fs most stx by rw [hstx]; exact HKX.out)
    rw [← hstx] at HST
    have HSTX : Hid (stx = { stx with inn := Lx.lex gt }) := Lib.hid (by
      rw [HCUT.out, show Lx.lex [] = [] from rfl, ← hxi])
    have HNX : Hid (stx.fuel + stx.used ≤ 100 ∧ stx.notes.length ≤ 1) := Lib.hid (by
      rw [hstx]
      refine ⟨HSTA.out.1, ?_⟩
      show (sta.notes ++ [_]).length ≤ 1
      rw [HSTA.out.2.1]
      simp)
    clear hstx hxi
    have hb9 : Below (b8 + 1) W2 WX := HBX.out
    have HLX := Lib.hid (lex_any gt (by omega) WX)
    obtain ⟨LX, hLX⟩ : ∃ LX, LX = Lx.lex gt := ⟨_, rfl⟩
    have hlx9 : LX.length ≤ 1000 := by rw [hLX]; have := lex_len gt; omega
    rw [← hLX] at HLX HSTX
    try rw [← hLX] at HST
    clear hLX hb9
    obtain ⟨s0, hs0⟩ : ∃ s0, s0 = Ex.start fs main fuel := ⟨_, rfl⟩
    rw [← hs0] at HE HOK
    have HS0 : Hid (s0 = { stx with inn := LX }) := Lib.hid (by rw [hs0, HST.out]; exact HSTX.out)
    clear hs0 HST HSTX HNOT HAK
    obtain ⟨vin, vm, vL, vR, vN, ps, h1, h2⟩ := HKX.out
    have HX1 := Lib.hid h1
    have HX2 := Lib.hid h2
    clear h1 h2
    go_upto_region 8 with (first
      | (go_at_call 16; (with_reducible refine HLX.out.mono ?_); rintro e w4 ⟨v4, rfl, o4, b4⟩; have HO4 := Lib.hid o4; have HB4 := Lib.hid b4; have HX4 := Lib.hid (HX1.out.kw (Kw.of_below b4) (by have := HX1.out.lt; omega)); have k1 := HX4.out.cell (i := 1) rfl; have kf := HX4.out.free 1; obtain ⟨a4, c4, hv4⟩ := own_shape o4; subst hv4; clear o4 b4)
      | fail)
    obtain ⟨W5, hW5⟩ : ∃ W5, W5 = w4.setCell ⟨b8 + 1, 1, none⟩ (.slice a4 LX.length c4) := ⟨_, rfl⟩
    rw [← hW5]
    have hk5 : Wk [] W5 (b8 + 1) (.slice af nf cf) fs most s0 := by
      rw [HS0.out, hW5]
      exact ⟨_, vm, vL, vR, vN, ps, HX4.out.set 1 _, ((HX2.out.below HB4.out).setIn (l := LX) (own_rd HO4.out) fun _ b hb => ⟨(HO4.out.lt b hb).2, HX2.out.fresh HX1.out.lt (HO4.out.lt b hb).1⟩).set 1 _⟩
    have HB5 : Hid (Below (b8 + 1) W2 W5) := Lib.hid (by
      have h9 := HBX.out.trans (HB4.out.mono (by have := HX1.out.lt; omega))
      rw [hW5]
      exact h9.trans ((Kw.set w4 (b8 + 1) 1 _).below (fun j e => by omega) (by have := h9.size; have := HSZ.out.2; omega)))
    have HK5 := Lib.hid hk5
    have HCO := Lib.hid (excom_any W5)
    have HS9 : Hid (s0.fuel + s0.used ≤ 100 ∧ s0.notes.length ≤ 1) := Lib.hid (by rw [HS0.out]; exact HNX.out)
    have HLEN : Hid (s0.inn.length = LX.length) := Lib.hid (by rw [HS0.out])
    clear hW5 hk5 k1 kf HX1 HX2 HX4 HO4 HB4 HLX HKX HBX HNX
    obtain ⟨B, hBB⟩ : ∃ B, B = most + s0.inn.length := ⟨_, rfl⟩
    rw [← hBB] at HE HOK
    have HBB : Hid (B ≤ 2000 ∧ most ≤ B) := Lib.hid (by have := HLEN.out; omega)
    clear hBB
    go_wp2_with (go_at_call 17; (with_reducible refine HCO.out.mono ?_); rintro e w6 ⟨rfl, m6, b6⟩)
    obtain ⟨bm, hbm⟩ : ∃ bm, bm = W5.heap.size := ⟨_, rfl⟩
    rw [← hbm] at m6 ⊢
    obtain ⟨es, ck, hobj, hrest⟩ := m6
    have HM6 : Hid (∀ W : World, W.heap[bm]? = some (.map es ck) → W.ownsMap Tryz.prog 9 readF bm 4 exD) := Lib.hid fun W hW => ⟨es, ck, hW, hrest⟩
    obtain ⟨OB, hOB⟩ : ∃ OB, OB = Obj.map es ck := ⟨_, rfl⟩
    rw [← hOB] at hobj HM6
    have hk6 : Wk [(bm, OB)] w6 (b8 + 1) (.slice af nf cf) fs most s0 := HK5.out.add b6 hobj (by rw [hbm]; exact Nat.le_refl _)
    have HK6 := Lib.hid hk6
    have HB6 : Hid (Below (b8 + 1) W2 w6) := Lib.hid (HB5.out.trans (b6.mono (by have := HK5.out.lt; omega)))
    clear hOB hobj hrest hk6 b6 HCO HK5 HB5 hbm
    go_wp2_with fail
    go_loopg [14] (Ex.mu B s0 - 0) (fun n v14 wr => ∃ st : Ex.St, Hid (Wk [(bm, OB)] wr (b8 + 1) (.slice af nf cf) fs most st) ∧ Hid (Ex.Ok most B 1000 st) ∧ Hid (st.fuel + st.used ≤ 1000) ∧ Hid (st.notes.length + Ex.mu B st ≤ Ex.mu B s0 + 1) ∧ Hid (Ex.mu B st = n ∧ Ex.run fs most (Ex.mu B st) st = E) ∧ Hid (Below (b8 + 1) W2 wr))
    case atStart => exact ⟨s0, HK6, HOK, Lib.hid (by have := HS9.out.1; omega), Lib.hid (by have := HS9.out.2; omega), Lib.hid ⟨rfl, HE.out.symm⟩, HB6⟩
    case round =>
      obtain ⟨st, HK, HOKR, HFU, HNT, HRUN, HBR⟩ := hrel
      rename World => wr
      obtain ⟨ii, hii⟩ : ∃ ii, ii = st.inn := ⟨_, rfl⟩
      cases ii with
      | nil =>
        have hE9 : E = st := by rw [← HRUN.out.2]; exact run_nil hii.symm
        have HKE : Hid (Wk [(bm, OB)] wr (b8 + 1) (.slice af nf cf) fs most E) := Lib.hid (by rw [hE9]; exact HK.out)
        have HIN0 : Hid (E.inn = []) := Lib.hid (by rw [hE9]; exact hii.symm)
        have HBE := HBR
        clear HK HOKR HFU HNT HRUN HBR hE9 hii
        obtain ⟨vin9, vm9, vL9, vR9, vN9, ps9, x1, x2⟩ := HKE.out
        obtain ⟨aL, cL, hL⟩ := own_shape x2.outL
        obtain ⟨aR, cR, hR⟩ := own_shape x2.reads
        obtain ⟨aN, cN, hN⟩ := own_shape x2.notes
        subst hL
        subst hR
        subst hN
        have HX2 := Lib.hid x2
        obtain ⟨nL, hnL⟩ : ∃ n, n = E.outL.length := ⟨_, rfl⟩
        obtain ⟨nR, hnR⟩ : ∃ n, n = E.reads.length := ⟨_, rfl⟩
        obtain ⟨nN, hnN⟩ : ∃ n, n = E.notes.length := ⟨_, rfl⟩
        obtain ⟨nU, hnU⟩ : ∃ n, n = E.used := ⟨_, rfl⟩
        rw [← hnL, ← hnR, ← hnN, ← hnU] at x1
        have e5 := x1.cell (i := 5) rfl
        have e6 := x1.cell (i := 6) rfl
        have e7 := x1.cell (i := 7) rfl
        have e8 := x1.cell (i := 8) rfl
        have e1 : wr.cell? ⟨b8 + 1, 1, none⟩ = some vin9 := x1.cell (i := 1) rfl
        obtain ⟨ai9, ci9, hv9⟩ := HX2.out.inn.shape
        rw [HIN0.out] at hv9
        subst hv9
        clear HIN0
        have HB9 : Hid (Below (b8 + 1) W1 wr) := Lib.hid ((HB12.out.mono (by have := HSZ.out.1; omega)).trans HBE.out)
        have hr8 : Ro wr b8 31 [.slice none 0 0, .slice none 0 0, .slice none 0 0, .int .i64 0] := HR8.out.kw (Kw.of_below HB9.out) (by omega)
        have g0 := hr8.cell (i := 0) rfl
        have g1 := hr8.cell (i := 1) rfl
        have g2 := hr8.cell (i := 2) rfl
        have g3 := hr8.cell (i := 3) rfl
        have j0 := hr8.free 0
        have j1 := hr8.free 1
        have j2 := hr8.free 2
        have j3 := hr8.free 3
        have HNN := Lib.hid (And.intro hnL (And.intro hnR (And.intro hnN hnU)))
        obtain ⟨WF, hWF⟩ : ∃ WF, WF = (((wr.setCell ⟨b8, 0, none⟩ (.slice aL nL cL)).setCell ⟨b8, 1, none⟩ (.slice aR nR cR)).setCell ⟨b8, 2, none⟩ (.slice aN nN cN)).setCell ⟨b8, 3, none⟩ (.int .i64 (nU : Int)) := ⟨_, rfl⟩
        have hrF : Ro WF b8 31 [.slice aL nL cL, .slice aR nR cR, .slice aN nN cN, .int .i64 (nU : Int)] := by rw [hWF]; exact (((hr8.set 0 _).set 1 _).set 2 _).set 3 _
        have hkF : Kw wr WF fun j => j = b8 := by
          rw [hWF]
          exact (((Kw.set _ b8 0 _).trans (Kw.set _ b8 1 _) fun _ _ e => e).trans (Kw.set _ b8 2 _) fun _ _ e => e).trans (Kw.set _ b8 3 _) fun _ _ e => e
        have HKF := Lib.hid hkF
        have HWF := Lib.hid hWF
        have r0 := hrF.cell (i := 0) rfl
        have r1 := hrF.cell (i := 1) rfl
        have r2 := hrF.cell (i := 2) rfl
        have r3 := hrF.cell (i := 3) rfl
        clear x1 x2 hr8 hnL hnR hnN hnU hWF hrF hkF
        go_wp2_with fail
        (try simp only [Exit.inBlock, Exit.then])
        rw [← HWF.out]
        refine bodyPost_ret (v := .tuple #[.agg #[.slice aL nL cL, .slice aR nR cR, .slice aN nN cN, .int .i64 (nU : Int)], .int .i64 0]) ?_ rfl ?_
        · rw [results_cell_tmp rfl]
          go_simp
        · have hbF : Below b8 wr WF := HKF.out.below (fun j e => by omega) (by have := HBE.out.size; have := HSZ.out.2; omega)
          have hbW : Below b8 w WF := by
            have h1 := HB1.out
            rw [← HB8.out] at h1
            have h2 := h1.trans (HB12.out.mono (by have := HSZ.out.1; omega))
            have h3 : Below b8 W2 wr := ⟨HBE.out.1, HBE.out.2, HBE.out.3, HBE.out.4, fun j hj => HBE.out.block j (by omega)⟩
            exact (h2.trans h3).trans hbF
          refine ⟨_, _, _, by rw [HNN.out.2.2.2], ?_, ?_, ?_, hbW⟩
          · have := HKF.out.row HX2.out.outL fun g hg e => by have := (HX2.out.outL.lt g hg).1; omega
            rw [← HNN.out.1] at this ⊢
            exact own_mono this (by omega)
          · have := HKF.out.row HX2.out.reads fun g hg e => by have := (HX2.out.reads.lt g hg).1; omega
            rw [← HNN.out.2.1] at this ⊢
            exact own_mono this (by omega)
          · have := HKF.out.row HX2.out.notes fun g hg e => by have := (HX2.out.notes.lt g hg).1; omega
            rw [← HNN.out.2.2.1] at this ⊢
            exact own_mono this (by omega)
      | cons t r =>
        obtain ⟨b, o, ci, c1, f1, hci, t0, t1, hbl⟩ := HK.out.first hii.symm
        obtain ⟨q1, q2, q3, q4⟩ := Ex.lt_next HOKR.out HBB.out.2 HF.out.2.2 hii.symm
        obtain ⟨st1, hst1⟩ : ∃ st1, st1 = { st with inn := r } := ⟨_, rfl⟩
        rw [← hst1] at q1 q2 q3 q4
        have htl : t.2.length ≤ 1000 := HOKR.out.int t (by rw [← hii]; exact List.mem_cons_self ..)
        have hnt1 : st1.notes.length ≤ 500000 := by
          have h0 := HNT.out
          have h1 := HS9.out.1
          have h2 := HLEN.out
          have h3 := HBB.out.1
          have h4 : s0.fuel * (B + 1) ≤ 100 * 2001 := Nat.mul_le_mul (by omega) (by omega)
          unfold Ex.mu at h0
          have : st1.notes = st.notes := by rw [hst1]
          rw [this]
          omega
        obtain ⟨k, s⟩ := t
        obtain ⟨WA, hWA⟩ : ∃ WA, WA = wr.alloc (.cells #[.int .i64 k, .string (S s)] 64) := ⟨_, rfl⟩
        have hba : Below wr.heap.size wr WA := by rw [hWA]; exact (Below.refl _ _).alloc (Nat.le_refl _) _
        have hga : Ro WA wr.heap.size 64 [.int .i64 k, .string (S s)] := by rw [hWA]; exact heap_alloc_new wr _
        have hka := HK.out.below hba
        obtain ⟨bz, oz, cz, d1, df, hdc, hkr⟩ := hka.rest (tq := 1) (by rw [← hii]; simp) (by rw [← hii]; simp)
        have hcz : some (Value.slice (some ⟨b, o, none⟩) (r.length + 1) ci) = some (Value.slice (some ⟨bz, oz, none⟩) st.inn.length cz) := by
          rw [← d1]
          exact ((hba.cell (p := ⟨b8 + 1, 1, none⟩) HK.out.lt).trans c1).symm
        simp only [Option.some.injEq, Value.slice.injEq, Addr.mk.injEq, and_true] at hcz
        obtain ⟨⟨rfl, rfl⟩, _, rfl⟩ := hcz
        have hdr : st.inn.drop 1 = r := by rw [← hii]; rfl
        have hln : st.inn.length = r.length + 1 := by rw [← hii]; rfl
        rw [hln] at d1
        rw [hdr, hln, ← hst1] at hkr
        have HKR := Lib.hid hkr
        have HGA := Lib.hid hga
        have HBA := Lib.hid hba
        have HQ := Lib.hid (And.intro q1 (And.intro q2 (And.intro q3 q4)))
        have HFU1 : Hid (st1.fuel + st1.used ≤ 1000) := Lib.hid (by rw [hst1]; exact HFU.out)
        have HRN : Hid (E = if (Ex.step fs most st1 (k, s)).2 = true then Ex.run fs most (Ex.mu B (Ex.step fs most st1 (k, s)).1) (Ex.step fs most st1 (k, s)).1 else (Ex.step fs most st1 (k, s)).1) := Lib.hid (by
          rw [← HRUN.out.2]
          obtain ⟨m, hm⟩ : ∃ m, Ex.mu B st = m + 1 := ⟨Ex.mu B st - 1, by omega⟩
          rw [hm, run_cons hii.symm, ← hst1]
          split
          · exact Ex.run_stable HBB.out.2 HF.out.2.2 _ _ _ q2 (by omega) (Nat.le_refl _)
          · rfl)
        have HN1 := Lib.hid hnt1
        have HNS : Hid (st1.notes.length = st.notes.length) := Lib.hid (by rw [hst1])
        have hc9 : (r.length : Int) + 1 ≤ (ci : Int) := by omega
        have hla : Hid (b8 + 1 < wr.heap.size) := Lib.hid HK.out.lt
        have HTL := Lib.hid htl
        have HWA := Lib.hid hWA
        obtain ⟨rl, hrl⟩ : ∃ rl, rl = r.length := ⟨_, rfl⟩
        rw [← hrl] at c1 d1 hci hc9 HKR
        have e0 := hga.cell (i := 0) rfl
        have e1 := hga.cell (i := 1) rfl
        clear hii hst1 htl hnt1 hba hga hka hkr hdr hln q1 q2 q3 q4 hWA hrl
        go_upto_region 11 with fail
        rw [← HWA.out]
        go_cut [67] (fun _ w' => Hid (Wk [(bm, OB)] w' (b8 + 1) (.slice af nf cf) fs most st1 ∧ Kw WA w' fun j => j = b8 + 1))
        case first =>
          by_cases hct : ci = 1
          · subst hct
            obtain rfl : rl = 0 := by omega
            have hkr := HKR.out
            rw [if_pos rfl] at hkr
            have HKR := Lib.hid hkr
            clear hkr
            go_wp2_with fail
            go_meet
            exact Lib.hid ⟨HKR.out, Kw.set _ _ _ _⟩
          · have hct2 : ¬ (ci : Int) = 1 := by omega
            have hkr := HKR.out
            rw [if_neg hct, Nat.add_sub_cancel, Nat.one_mul] at hkr
            have HKR := Lib.hid hkr
            clear hkr
            go_wp2_with fail
            go_meet
            exact Lib.hid ⟨HKR.out, Kw.set _ _ _ _⟩
        case rest =>
          have HKC := hcut
          rename World => wc
          have hgc := HGA.out.kw HKC.out.2 (by have := hla.out; omega)
          have e0 := hgc.cell (i := 0) rfl
          have e1 := hgc.cell (i := 1) rfl
          have HBC : Hid (Below (b8 + 1) W2 wc) := Lib.hid ((HBR.out.trans (HBA.out.mono (Nat.le_of_lt hla.out))).trans (HKC.out.2.below (fun j e => by omega) (by have := hla.out; have := HBA.out.size; omega)))
          have HSP := Lib.hid (step_any (k, s) bm wc HKC.out.1 HQ.out.1 (HM6.out wc (HKC.out.1.obj (List.mem_cons_self ..))) (HGL.out.below (by omega) HBC.out) (by omega) (by have := HBB.out.1; omega) HBB.out.2 (by omega) HF.out.1 (by have := HF.out.2.1; omega) HF.out.2.2 HFU1.out HTL.out (by have := HN1.out; omega))
          obtain ⟨sb, hsb⟩ : ∃ sb, sb = (Ex.step fs most st1 (k, s)).2 := ⟨_, rfl⟩
          obtain ⟨s2, hs2⟩ : ∃ s2, s2 = (Ex.step fs most st1 (k, s)).1 := ⟨_, rfl⟩
          have hfu9 := fu_step fs most st1 (k, s)
          rw [← hs2] at hfu9
          rw [← hsb, ← hs2] at HSP HRN
          rw [← hs2] at HQ
          have HFU2 : Hid (s2.fuel + s2.used ≤ 1000) := Lib.hid (by rw [hfu9]; exact HFU1.out)
          clear hsb hs2 hfu9 hgc HKC HKR
          cases sb
          · have hE9 : E = s2 := by rw [HRN.out]; rfl
            subst hE9
            go_upto_region 13 with (go_at_call 18; (with_reducible refine HSP.out.mono ?_); rintro e w9 ⟨rfl, k9, b9⟩)
            have HKE := Lib.hid k9
            have HBE := Lib.hid (HBC.out.trans b9)
            clear k9 b9
            obtain ⟨vin9, vm9, vL9, vR9, vN9, ps9, x1, x2⟩ := HKE.out
            obtain ⟨aL, cL, hL⟩ := own_shape x2.outL
            obtain ⟨aR, cR, hR⟩ := own_shape x2.reads
            obtain ⟨aN, cN, hN⟩ := own_shape x2.notes
            subst hL
            subst hR
            subst hN
            have HX2 := Lib.hid x2
            obtain ⟨nL, hnL⟩ : ∃ n, n = E.outL.length := ⟨_, rfl⟩
            obtain ⟨nR, hnR⟩ : ∃ n, n = E.reads.length := ⟨_, rfl⟩
            obtain ⟨nN, hnN⟩ : ∃ n, n = E.notes.length := ⟨_, rfl⟩
            obtain ⟨nU, hnU⟩ : ∃ n, n = E.used := ⟨_, rfl⟩
            rw [← hnL, ← hnR, ← hnN, ← hnU] at x1
            have e5 := x1.cell (i := 5) rfl
            have e6 := x1.cell (i := 6) rfl
            have e7 := x1.cell (i := 7) rfl
            have e8 := x1.cell (i := 8) rfl
            have HB9 : Hid (Below (b8 + 1) W1 w9) := Lib.hid ((HB12.out.mono (by have := HSZ.out.1; omega)).trans HBE.out)
            have hr8 : Ro w9 b8 31 [.slice none 0 0, .slice none 0 0, .slice none 0 0, .int .i64 0] := HR8.out.kw (Kw.of_below HB9.out) (by omega)
            have g0 := hr8.cell (i := 0) rfl
            have g1 := hr8.cell (i := 1) rfl
            have g2 := hr8.cell (i := 2) rfl
            have g3 := hr8.cell (i := 3) rfl
            have j0 := hr8.free 0
            have j1 := hr8.free 1
            have j2 := hr8.free 2
            have j3 := hr8.free 3
            have HNN := Lib.hid (And.intro hnL (And.intro hnR (And.intro hnN hnU)))
            obtain ⟨WF, hWF⟩ : ∃ WF, WF = (((w9.setCell ⟨b8, 0, none⟩ (.slice aL nL cL)).setCell ⟨b8, 1, none⟩ (.slice aR nR cR)).setCell ⟨b8, 2, none⟩ (.slice aN nN cN)).setCell ⟨b8, 3, none⟩ (.int .i64 (nU : Int)) := ⟨_, rfl⟩
            have hrF : Ro WF b8 31 [.slice aL nL cL, .slice aR nR cR, .slice aN nN cN, .int .i64 (nU : Int)] := by rw [hWF]; exact (((hr8.set 0 _).set 1 _).set 2 _).set 3 _
            have hkF : Kw w9 WF fun j => j = b8 := by
              rw [hWF]
              exact (((Kw.set _ b8 0 _).trans (Kw.set _ b8 1 _) fun _ _ e => e).trans (Kw.set _ b8 2 _) fun _ _ e => e).trans (Kw.set _ b8 3 _) fun _ _ e => e
            have HKF := Lib.hid hkF
            have HWF := Lib.hid hWF
            have r0 := hrF.cell (i := 0) rfl
            have r1 := hrF.cell (i := 1) rfl
            have r2 := hrF.cell (i := 2) rfl
            have r3 := hrF.cell (i := 3) rfl
            clear x1 x2 hr8 hnL hnR hnN hnU hWF hrF hkF
            go_wp2_with fail
            (try simp only [Exit.inBlock, Exit.then])
            rw [← HWF.out]
            refine bodyPost_ret (v := .tuple #[.agg #[.slice aL nL cL, .slice aR nR cR, .slice aN nN cN, .int .i64 (nU : Int)], .int .i64 0]) ?_ rfl ?_
            · rw [results_cell_tmp rfl]
              go_simp
            · have hbF : Below b8 w9 WF := HKF.out.below (fun j e => by omega) (by have := HBE.out.size; have := HSZ.out.2; omega)
              have hbW : Below b8 w WF := by
                have h1 := HB1.out
                rw [← HB8.out] at h1
                have h2 := h1.trans (HB12.out.mono (by have := HSZ.out.1; omega))
                have h3 : Below b8 W2 w9 := ⟨HBE.out.1, HBE.out.2, HBE.out.3, HBE.out.4, fun j hj => HBE.out.block j (by omega)⟩
                exact (h2.trans h3).trans hbF
              refine ⟨_, _, _, by rw [HNN.out.2.2.2], ?_, ?_, ?_, hbW⟩
              · have := HKF.out.row HX2.out.outL fun g hg e => by have := (HX2.out.outL.lt g hg).1; omega
                rw [← HNN.out.1] at this ⊢
                exact own_mono this (by omega)
              · have := HKF.out.row HX2.out.reads fun g hg e => by have := (HX2.out.reads.lt g hg).1; omega
                rw [← HNN.out.2.1] at this ⊢
                exact own_mono this (by omega)
              · have := HKF.out.row HX2.out.notes fun g hg e => by have := (HX2.out.notes.lt g hg).1; omega
                rw [← HNN.out.2.2.1] at this ⊢
                exact own_mono this (by omega)
          · go_wp2_with (go_at_call 18; (with_reducible refine HSP.out.mono ?_); rintro e w9 ⟨rfl, k9, b9⟩)
            go_roundg (Ex.mu B s2)
            case measure => have h1 := HQ.out.2.2.1; have h2 := HRUN.out.1; omega
            case rel => exact ⟨s2, Lib.hid k9, Lib.hid HQ.out.2.1, HFU2, Lib.hid (by have h1 := HQ.out.2.2.1; have h2 := HQ.out.2.2.2; have h3 := HNT.out; omega), Lib.hid ⟨rfl, by rw [HRN.out]; exact (if_pos trivial).symm⟩, Lib.hid (HBC.out.trans b9)⟩
  · rw [if_pos rfl] at HST
    go_enter Tryz.func7, Tryz.ntmps7
    go_upto_region 3 with fail
    rw [← HW1.out]
    rw [← HB8.out]
    go_upto_region 4 with fail
    rw [show W1.heap.size = b8 + 1 from HSZ.out.1, ← HW2.out]
    go_upto_region 7 with (first
      | (go_at_call 14; (with_reducible refine HAK.out.mono ?_); rintro e WX ⟨rfl, kx, bx⟩; have HKX := Lib.hid kx; have HBX := Lib.hid bx; clear kx bx)
      | fail)
    obtain ⟨stx, hstx⟩ : ∃ stx, stx = sta := ⟨_, rfl⟩
    have HSTX : Hid ({ sta with inn := Lx.lex gt } = { stx with inn := Lx.lex gt }) := Lib.hid (by rw [hstx])
    have HNX : Hid (stx.fuel + stx.used ≤ 100 ∧ stx.notes.length ≤ 1) := Lib.hid (by rw [hstx, HSTA.out.2.1]; exact ⟨HSTA.out.1, by simp⟩)
    rw [← hstx] at HKX
    clear hstx
    have hb9 : Below (b8 + 1) W2 WX := HBX.out
    have HLX := Lib.hid (lex_any gt (by omega) WX)
    obtain ⟨LX, hLX⟩ : ∃ LX, LX = Lx.lex gt := ⟨_, rfl⟩
    have hlx9 : LX.length ≤ 1000 := by rw [hLX]; have := lex_len gt; omega
    rw [← hLX] at HLX HSTX
    try rw [← hLX] at HST
    clear hLX hb9
    obtain ⟨s0, hs0⟩ : ∃ s0, s0 = Ex.start fs main fuel := ⟨_, rfl⟩
    rw [← hs0] at HE HOK
    have HS0 : Hid (s0 = { stx with inn := LX }) := Lib.hid (by rw [hs0, HST.out]; exact HSTX.out)
    clear hs0 HST HSTX HNOT HAK
    obtain ⟨vin, vm, vL, vR, vN, ps, h1, h2⟩ := HKX.out
    have HX1 := Lib.hid h1
    have HX2 := Lib.hid h2
    clear h1 h2
    go_upto_region 8 with (first
      | (go_at_call 16; (with_reducible refine HLX.out.mono ?_); rintro e w4 ⟨v4, rfl, o4, b4⟩; have HO4 := Lib.hid o4; have HB4 := Lib.hid b4; have HX4 := Lib.hid (HX1.out.kw (Kw.of_below b4) (by have := HX1.out.lt; omega)); have k1 := HX4.out.cell (i := 1) rfl; have kf := HX4.out.free 1; obtain ⟨a4, c4, hv4⟩ := own_shape o4; subst hv4; clear o4 b4)
      | fail)
    obtain ⟨W5, hW5⟩ : ∃ W5, W5 = w4.setCell ⟨b8 + 1, 1, none⟩ (.slice a4 LX.length c4) := ⟨_, rfl⟩
    rw [← hW5]
    have hk5 : Wk [] W5 (b8 + 1) (.slice af nf cf) fs most s0 := by
      rw [HS0.out, hW5]
      exact ⟨_, vm, vL, vR, vN, ps, HX4.out.set 1 _, ((HX2.out.below HB4.out).setIn (l := LX) (own_rd HO4.out) fun _ b hb => ⟨(HO4.out.lt b hb).2, HX2.out.fresh HX1.out.lt (HO4.out.lt b hb).1⟩).set 1 _⟩
    have HB5 : Hid (Below (b8 + 1) W2 W5) := Lib.hid (by
      have h9 := HBX.out.trans (HB4.out.mono (by have := HX1.out.lt; omega))
      rw [hW5]
      exact h9.trans ((Kw.set w4 (b8 + 1) 1 _).below (fun j e => by omega) (by have := h9.size; have := HSZ.out.2; omega)))
    have HK5 := Lib.hid hk5
    have HCO := Lib.hid (excom_any W5)
    have HS9 : Hid (s0.fuel + s0.used ≤ 100 ∧ s0.notes.length ≤ 1) := Lib.hid (by rw [HS0.out]; exact HNX.out)
    have HLEN : Hid (s0.inn.length = LX.length) := Lib.hid (by rw [HS0.out])
    clear hW5 hk5 k1 kf HX1 HX2 HX4 HO4 HB4 HLX HKX HBX HNX
    obtain ⟨B, hBB⟩ : ∃ B, B = most + s0.inn.length := ⟨_, rfl⟩
    rw [← hBB] at HE HOK
    have HBB : Hid (B ≤ 2000 ∧ most ≤ B) := Lib.hid (by have := HLEN.out; omega)
    clear hBB
    go_wp2_with (go_at_call 17; (with_reducible refine HCO.out.mono ?_); rintro e w6 ⟨rfl, m6, b6⟩)
    obtain ⟨bm, hbm⟩ : ∃ bm, bm = W5.heap.size := ⟨_, rfl⟩
    rw [← hbm] at m6 ⊢
    obtain ⟨es, ck, hobj, hrest⟩ := m6
    have HM6 : Hid (∀ W : World, W.heap[bm]? = some (.map es ck) → W.ownsMap Tryz.prog 9 readF bm 4 exD) := Lib.hid fun W hW => ⟨es, ck, hW, hrest⟩
    obtain ⟨OB, hOB⟩ : ∃ OB, OB = Obj.map es ck := ⟨_, rfl⟩
    rw [← hOB] at hobj HM6
    have hk6 : Wk [(bm, OB)] w6 (b8 + 1) (.slice af nf cf) fs most s0 := HK5.out.add b6 hobj (by rw [hbm]; exact Nat.le_refl _)
    have HK6 := Lib.hid hk6
    have HB6 : Hid (Below (b8 + 1) W2 w6) := Lib.hid (HB5.out.trans (b6.mono (by have := HK5.out.lt; omega)))
    clear hOB hobj hrest hk6 b6 HCO HK5 HB5 hbm
    go_wp2_with fail
    go_loopg [14] (Ex.mu B s0 - 0) (fun n v14 wr => ∃ st : Ex.St, Hid (Wk [(bm, OB)] wr (b8 + 1) (.slice af nf cf) fs most st) ∧ Hid (Ex.Ok most B 1000 st) ∧ Hid (st.fuel + st.used ≤ 1000) ∧ Hid (st.notes.length + Ex.mu B st ≤ Ex.mu B s0 + 1) ∧ Hid (Ex.mu B st = n ∧ Ex.run fs most (Ex.mu B st) st = E) ∧ Hid (Below (b8 + 1) W2 wr))
    case atStart => exact ⟨s0, HK6, HOK, Lib.hid (by have := HS9.out.1; omega), Lib.hid (by have := HS9.out.2; omega), Lib.hid ⟨rfl, HE.out.symm⟩, HB6⟩
    case round =>
      obtain ⟨st, HK, HOKR, HFU, HNT, HRUN, HBR⟩ := hrel
      rename World => wr
      obtain ⟨ii, hii⟩ : ∃ ii, ii = st.inn := ⟨_, rfl⟩
      cases ii with
      | nil =>
        have hE9 : E = st := by rw [← HRUN.out.2]; exact run_nil hii.symm
        have HKE : Hid (Wk [(bm, OB)] wr (b8 + 1) (.slice af nf cf) fs most E) := Lib.hid (by rw [hE9]; exact HK.out)
        have HIN0 : Hid (E.inn = []) := Lib.hid (by rw [hE9]; exact hii.symm)
        have HBE := HBR
        clear HK HOKR HFU HNT HRUN HBR hE9 hii
        obtain ⟨vin9, vm9, vL9, vR9, vN9, ps9, x1, x2⟩ := HKE.out
        obtain ⟨aL, cL, hL⟩ := own_shape x2.outL
        obtain ⟨aR, cR, hR⟩ := own_shape x2.reads
        obtain ⟨aN, cN, hN⟩ := own_shape x2.notes
        subst hL
        subst hR
        subst hN
        have HX2 := Lib.hid x2
        obtain ⟨nL, hnL⟩ : ∃ n, n = E.outL.length := ⟨_, rfl⟩
        obtain ⟨nR, hnR⟩ : ∃ n, n = E.reads.length := ⟨_, rfl⟩
        obtain ⟨nN, hnN⟩ : ∃ n, n = E.notes.length := ⟨_, rfl⟩
        obtain ⟨nU, hnU⟩ : ∃ n, n = E.used := ⟨_, rfl⟩
        rw [← hnL, ← hnR, ← hnN, ← hnU] at x1
        have e5 := x1.cell (i := 5) rfl
        have e6 := x1.cell (i := 6) rfl
        have e7 := x1.cell (i := 7) rfl
        have e8 := x1.cell (i := 8) rfl
        have e1 : wr.cell? ⟨b8 + 1, 1, none⟩ = some vin9 := x1.cell (i := 1) rfl
        obtain ⟨ai9, ci9, hv9⟩ := HX2.out.inn.shape
        rw [HIN0.out] at hv9
        subst hv9
        clear HIN0
        have HB9 : Hid (Below (b8 + 1) W1 wr) := Lib.hid ((HB12.out.mono (by have := HSZ.out.1; omega)).trans HBE.out)
        have hr8 : Ro wr b8 31 [.slice none 0 0, .slice none 0 0, .slice none 0 0, .int .i64 0] := HR8.out.kw (Kw.of_below HB9.out) (by omega)
        have g0 := hr8.cell (i := 0) rfl
        have g1 := hr8.cell (i := 1) rfl
        have g2 := hr8.cell (i := 2) rfl
        have g3 := hr8.cell (i := 3) rfl
        have j0 := hr8.free 0
        have j1 := hr8.free 1
        have j2 := hr8.free 2
        have j3 := hr8.free 3
        have HNN := Lib.hid (And.intro hnL (And.intro hnR (And.intro hnN hnU)))
        obtain ⟨WF, hWF⟩ : ∃ WF, WF = (((wr.setCell ⟨b8, 0, none⟩ (.slice aL nL cL)).setCell ⟨b8, 1, none⟩ (.slice aR nR cR)).setCell ⟨b8, 2, none⟩ (.slice aN nN cN)).setCell ⟨b8, 3, none⟩ (.int .i64 (nU : Int)) := ⟨_, rfl⟩
        have hrF : Ro WF b8 31 [.slice aL nL cL, .slice aR nR cR, .slice aN nN cN, .int .i64 (nU : Int)] := by rw [hWF]; exact (((hr8.set 0 _).set 1 _).set 2 _).set 3 _
        have hkF : Kw wr WF fun j => j = b8 := by
          rw [hWF]
          exact (((Kw.set _ b8 0 _).trans (Kw.set _ b8 1 _) fun _ _ e => e).trans (Kw.set _ b8 2 _) fun _ _ e => e).trans (Kw.set _ b8 3 _) fun _ _ e => e
        have HKF := Lib.hid hkF
        have HWF := Lib.hid hWF
        have r0 := hrF.cell (i := 0) rfl
        have r1 := hrF.cell (i := 1) rfl
        have r2 := hrF.cell (i := 2) rfl
        have r3 := hrF.cell (i := 3) rfl
        clear x1 x2 hr8 hnL hnR hnN hnU hWF hrF hkF
        go_wp2_with fail
        (try simp only [Exit.inBlock, Exit.then])
        rw [← HWF.out]
        refine bodyPost_ret (v := .tuple #[.agg #[.slice aL nL cL, .slice aR nR cR, .slice aN nN cN, .int .i64 (nU : Int)], .int .i64 0]) ?_ rfl ?_
        · rw [results_cell_tmp rfl]
          go_simp
        · have hbF : Below b8 wr WF := HKF.out.below (fun j e => by omega) (by have := HBE.out.size; have := HSZ.out.2; omega)
          have hbW : Below b8 w WF := by
            have h1 := HB1.out
            rw [← HB8.out] at h1
            have h2 := h1.trans (HB12.out.mono (by have := HSZ.out.1; omega))
            have h3 : Below b8 W2 wr := ⟨HBE.out.1, HBE.out.2, HBE.out.3, HBE.out.4, fun j hj => HBE.out.block j (by omega)⟩
            exact (h2.trans h3).trans hbF
          refine ⟨_, _, _, by rw [HNN.out.2.2.2], ?_, ?_, ?_, hbW⟩
          · have := HKF.out.row HX2.out.outL fun g hg e => by have := (HX2.out.outL.lt g hg).1; omega
            rw [← HNN.out.1] at this ⊢
            exact own_mono this (by omega)
          · have := HKF.out.row HX2.out.reads fun g hg e => by have := (HX2.out.reads.lt g hg).1; omega
            rw [← HNN.out.2.1] at this ⊢
            exact own_mono this (by omega)
          · have := HKF.out.row HX2.out.notes fun g hg e => by have := (HX2.out.notes.lt g hg).1; omega
            rw [← HNN.out.2.2.1] at this ⊢
            exact own_mono this (by omega)
      | cons t r =>
        obtain ⟨b, o, ci, c1, f1, hci, t0, t1, hbl⟩ := HK.out.first hii.symm
        obtain ⟨q1, q2, q3, q4⟩ := Ex.lt_next HOKR.out HBB.out.2 HF.out.2.2 hii.symm
        obtain ⟨st1, hst1⟩ : ∃ st1, st1 = { st with inn := r } := ⟨_, rfl⟩
        rw [← hst1] at q1 q2 q3 q4
        have htl : t.2.length ≤ 1000 := HOKR.out.int t (by rw [← hii]; exact List.mem_cons_self ..)
        have hnt1 : st1.notes.length ≤ 500000 := by
          have h0 := HNT.out
          have h1 := HS9.out.1
          have h2 := HLEN.out
          have h3 := HBB.out.1
          have h4 : s0.fuel * (B + 1) ≤ 100 * 2001 := Nat.mul_le_mul (by omega) (by omega)
          unfold Ex.mu at h0
          have : st1.notes = st.notes := by rw [hst1]
          rw [this]
          omega
        obtain ⟨k, s⟩ := t
        obtain ⟨WA, hWA⟩ : ∃ WA, WA = wr.alloc (.cells #[.int .i64 k, .string (S s)] 64) := ⟨_, rfl⟩
        have hba : Below wr.heap.size wr WA := by rw [hWA]; exact (Below.refl _ _).alloc (Nat.le_refl _) _
        have hga : Ro WA wr.heap.size 64 [.int .i64 k, .string (S s)] := by rw [hWA]; exact heap_alloc_new wr _
        have hka := HK.out.below hba
        obtain ⟨bz, oz, cz, d1, df, hdc, hkr⟩ := hka.rest (tq := 1) (by rw [← hii]; simp) (by rw [← hii]; simp)
        have hcz : some (Value.slice (some ⟨b, o, none⟩) (r.length + 1) ci) = some (Value.slice (some ⟨bz, oz, none⟩) st.inn.length cz) := by
          rw [← d1]
          exact ((hba.cell (p := ⟨b8 + 1, 1, none⟩) HK.out.lt).trans c1).symm
        simp only [Option.some.injEq, Value.slice.injEq, Addr.mk.injEq, and_true] at hcz
        obtain ⟨⟨rfl, rfl⟩, _, rfl⟩ := hcz
        have hdr : st.inn.drop 1 = r := by rw [← hii]; rfl
        have hln : st.inn.length = r.length + 1 := by rw [← hii]; rfl
        rw [hln] at d1
        rw [hdr, hln, ← hst1] at hkr
        have HKR := Lib.hid hkr
        have HGA := Lib.hid hga
        have HBA := Lib.hid hba
        have HQ := Lib.hid (And.intro q1 (And.intro q2 (And.intro q3 q4)))
        have HFU1 : Hid (st1.fuel + st1.used ≤ 1000) := Lib.hid (by rw [hst1]; exact HFU.out)
        have HRN : Hid (E = if (Ex.step fs most st1 (k, s)).2 = true then Ex.run fs most (Ex.mu B (Ex.step fs most st1 (k, s)).1) (Ex.step fs most st1 (k, s)).1 else (Ex.step fs most st1 (k, s)).1) := Lib.hid (by
          rw [← HRUN.out.2]
          obtain ⟨m, hm⟩ : ∃ m, Ex.mu B st = m + 1 := ⟨Ex.mu B st - 1, by omega⟩
          rw [hm, run_cons hii.symm, ← hst1]
          split
          · exact Ex.run_stable HBB.out.2 HF.out.2.2 _ _ _ q2 (by omega) (Nat.le_refl _)
          · rfl)
        have HN1 := Lib.hid hnt1
        have HNS : Hid (st1.notes.length = st.notes.length) := Lib.hid (by rw [hst1])
        have hc9 : (r.length : Int) + 1 ≤ (ci : Int) := by omega
        have hla : Hid (b8 + 1 < wr.heap.size) := Lib.hid HK.out.lt
        have HTL := Lib.hid htl
        have HWA := Lib.hid hWA
        obtain ⟨rl, hrl⟩ : ∃ rl, rl = r.length := ⟨_, rfl⟩
        rw [← hrl] at c1 d1 hci hc9 HKR
        have e0 := hga.cell (i := 0) rfl
        have e1 := hga.cell (i := 1) rfl
        clear hii hst1 htl hnt1 hba hga hka hkr hdr hln q1 q2 q3 q4 hWA hrl
        go_upto_region 11 with fail
        rw [← HWA.out]
        go_cut [67] (fun _ w' => Hid (Wk [(bm, OB)] w' (b8 + 1) (.slice af nf cf) fs most st1 ∧ Kw WA w' fun j => j = b8 + 1))
        case first =>
          by_cases hct : ci = 1
          · subst hct
            obtain rfl : rl = 0 := by omega
            have hkr := HKR.out
            rw [if_pos rfl] at hkr
            have HKR := Lib.hid hkr
            clear hkr
            go_wp2_with fail
            go_meet
            exact Lib.hid ⟨HKR.out, Kw.set _ _ _ _⟩
          · have hct2 : ¬ (ci : Int) = 1 := by omega
            have hkr := HKR.out
            rw [if_neg hct, Nat.add_sub_cancel, Nat.one_mul] at hkr
            have HKR := Lib.hid hkr
            clear hkr
            go_wp2_with fail
            go_meet
            exact Lib.hid ⟨HKR.out, Kw.set _ _ _ _⟩
        case rest =>
          have HKC := hcut
          rename World => wc
          have hgc := HGA.out.kw HKC.out.2 (by have := hla.out; omega)
          have e0 := hgc.cell (i := 0) rfl
          have e1 := hgc.cell (i := 1) rfl
          have HBC : Hid (Below (b8 + 1) W2 wc) := Lib.hid ((HBR.out.trans (HBA.out.mono (Nat.le_of_lt hla.out))).trans (HKC.out.2.below (fun j e => by omega) (by have := hla.out; have := HBA.out.size; omega)))
          have HSP := Lib.hid (step_any (k, s) bm wc HKC.out.1 HQ.out.1 (HM6.out wc (HKC.out.1.obj (List.mem_cons_self ..))) (HGL.out.below (by omega) HBC.out) (by omega) (by have := HBB.out.1; omega) HBB.out.2 (by omega) HF.out.1 (by have := HF.out.2.1; omega) HF.out.2.2 HFU1.out HTL.out (by have := HN1.out; omega))
          obtain ⟨sb, hsb⟩ : ∃ sb, sb = (Ex.step fs most st1 (k, s)).2 := ⟨_, rfl⟩
          obtain ⟨s2, hs2⟩ : ∃ s2, s2 = (Ex.step fs most st1 (k, s)).1 := ⟨_, rfl⟩
          have hfu9 := fu_step fs most st1 (k, s)
          rw [← hs2] at hfu9
          rw [← hsb, ← hs2] at HSP HRN
          rw [← hs2] at HQ
          have HFU2 : Hid (s2.fuel + s2.used ≤ 1000) := Lib.hid (by rw [hfu9]; exact HFU1.out)
          clear hsb hs2 hfu9 hgc HKC HKR
          cases sb
          · have hE9 : E = s2 := by rw [HRN.out]; rfl
            subst hE9
            go_upto_region 13 with (go_at_call 18; (with_reducible refine HSP.out.mono ?_); rintro e w9 ⟨rfl, k9, b9⟩)
            have HKE := Lib.hid k9
            have HBE := Lib.hid (HBC.out.trans b9)
            clear k9 b9
            obtain ⟨vin9, vm9, vL9, vR9, vN9, ps9, x1, x2⟩ := HKE.out
            obtain ⟨aL, cL, hL⟩ := own_shape x2.outL
            obtain ⟨aR, cR, hR⟩ := own_shape x2.reads
            obtain ⟨aN, cN, hN⟩ := own_shape x2.notes
            subst hL
            subst hR
            subst hN
            have HX2 := Lib.hid x2
            obtain ⟨nL, hnL⟩ : ∃ n, n = E.outL.length := ⟨_, rfl⟩
            obtain ⟨nR, hnR⟩ : ∃ n, n = E.reads.length := ⟨_, rfl⟩
            obtain ⟨nN, hnN⟩ : ∃ n, n = E.notes.length := ⟨_, rfl⟩
            obtain ⟨nU, hnU⟩ : ∃ n, n = E.used := ⟨_, rfl⟩
            rw [← hnL, ← hnR, ← hnN, ← hnU] at x1
            have e5 := x1.cell (i := 5) rfl
            have e6 := x1.cell (i := 6) rfl
            have e7 := x1.cell (i := 7) rfl
            have e8 := x1.cell (i := 8) rfl
            have HB9 : Hid (Below (b8 + 1) W1 w9) := Lib.hid ((HB12.out.mono (by have := HSZ.out.1; omega)).trans HBE.out)
            have hr8 : Ro w9 b8 31 [.slice none 0 0, .slice none 0 0, .slice none 0 0, .int .i64 0] := HR8.out.kw (Kw.of_below HB9.out) (by omega)
            have g0 := hr8.cell (i := 0) rfl
            have g1 := hr8.cell (i := 1) rfl
            have g2 := hr8.cell (i := 2) rfl
            have g3 := hr8.cell (i := 3) rfl
            have j0 := hr8.free 0
            have j1 := hr8.free 1
            have j2 := hr8.free 2
            have j3 := hr8.free 3
            have HNN := Lib.hid (And.intro hnL (And.intro hnR (And.intro hnN hnU)))
            obtain ⟨WF, hWF⟩ : ∃ WF, WF = (((w9.setCell ⟨b8, 0, none⟩ (.slice aL nL cL)).setCell ⟨b8, 1, none⟩ (.slice aR nR cR)).setCell ⟨b8, 2, none⟩ (.slice aN nN cN)).setCell ⟨b8, 3, none⟩ (.int .i64 (nU : Int)) := ⟨_, rfl⟩
            have hrF : Ro WF b8 31 [.slice aL nL cL, .slice aR nR cR, .slice aN nN cN, .int .i64 (nU : Int)] := by rw [hWF]; exact (((hr8.set 0 _).set 1 _).set 2 _).set 3 _
            have hkF : Kw w9 WF fun j => j = b8 := by
              rw [hWF]
              exact (((Kw.set _ b8 0 _).trans (Kw.set _ b8 1 _) fun _ _ e => e).trans (Kw.set _ b8 2 _) fun _ _ e => e).trans (Kw.set _ b8 3 _) fun _ _ e => e
            have HKF := Lib.hid hkF
            have HWF := Lib.hid hWF
            have r0 := hrF.cell (i := 0) rfl
            have r1 := hrF.cell (i := 1) rfl
            have r2 := hrF.cell (i := 2) rfl
            have r3 := hrF.cell (i := 3) rfl
            clear x1 x2 hr8 hnL hnR hnN hnU hWF hrF hkF
            go_wp2_with fail
            (try simp only [Exit.inBlock, Exit.then])
            rw [← HWF.out]
            refine bodyPost_ret (v := .tuple #[.agg #[.slice aL nL cL, .slice aR nR cR, .slice aN nN cN, .int .i64 (nU : Int)], .int .i64 0]) ?_ rfl ?_
            · rw [results_cell_tmp rfl]
              go_simp
            · have hbF : Below b8 w9 WF := HKF.out.below (fun j e => by omega) (by have := HBE.out.size; have := HSZ.out.2; omega)
              have hbW : Below b8 w WF := by
                have h1 := HB1.out
                rw [← HB8.out] at h1
                have h2 := h1.trans (HB12.out.mono (by have := HSZ.out.1; omega))
                have h3 : Below b8 W2 w9 := ⟨HBE.out.1, HBE.out.2, HBE.out.3, HBE.out.4, fun j hj => HBE.out.block j (by omega)⟩
                exact (h2.trans h3).trans hbF
              refine ⟨_, _, _, by rw [HNN.out.2.2.2], ?_, ?_, ?_, hbW⟩
              · have := HKF.out.row HX2.out.outL fun g hg e => by have := (HX2.out.outL.lt g hg).1; omega
                rw [← HNN.out.1] at this ⊢
                exact own_mono this (by omega)
              · have := HKF.out.row HX2.out.reads fun g hg e => by have := (HX2.out.reads.lt g hg).1; omega
                rw [← HNN.out.2.1] at this ⊢
                exact own_mono this (by omega)
              · have := HKF.out.row HX2.out.notes fun g hg e => by have := (HX2.out.notes.lt g hg).1; omega
                rw [← HNN.out.2.2.1] at this ⊢
                exact own_mono this (by omega)
          · go_wp2_with (go_at_call 18; (with_reducible refine HSP.out.mono ?_); rintro e w9 ⟨rfl, k9, b9⟩)
            go_roundg (Ex.mu B s2)
            case measure => have h1 := HQ.out.2.2.1; have h2 := HRUN.out.1; omega
            case rel => exact ⟨s2, Lib.hid k9, Lib.hid HQ.out.2.1, HFU2, Lib.hid (by have h1 := HQ.out.2.2.1; have h2 := HQ.out.2.2.2; have h3 := HNT.out; omega), Lib.hid ⟨rfl, by rw [HRN.out]; exact (if_pos trivial).symm⟩, Lib.hid (HBC.out.trans b9)⟩
end Go.Proofs.YtjfikkjaifdkiaaGreatDoor

namespace Go.Proofs.YtjfikkjaifdkiaaGreatDoor
open Go.RowKit

theorem fown_at {w : World} {base e n g c k : Nat} {xs : List Value} (h : w.ownsRow base e k (.slice (some ⟨g, 0, none⟩) n c) n xs) {j : Nat} {u : Value} (hj : xs[j]? = some u) : w.cell? ⟨g, j, none⟩ = some u := by
  have := h.cells (g := g) rfl j u hj
  rwa [addr_add, Nat.zero_add] at this

abbrev fzm : List Value := [.string (S []), .string (S [])]
theorem dropF_none {ms : List Fl} {t : List UInt8} (h : Fi.has ms t = false) : Fi.drop ms t = ms := by
  unfold Fi.has Fi.names at h
  unfold Fi.drop
  rw [List.filter_eq_self]
  intro m hm
  have : m.1 ≠ t := by
    rintro e
    have : t ∈ ms.map Prod.fst := List.mem_map.2 ⟨m, hm, e⟩
    simp [this] at h
  simpa [bne] using this
theorem dropF_at {ms : List Fl} {t : List UInt8} (hs : Fi.Ord ms) {i : Nat} (hi : i < ms.length) (h : ms[i].1 = t) : Fi.drop ms t = ms.take i ++ ms.drop (i + 1) := by
  have e : ms = ms.take i ++ ms[i] :: ms.drop (i + 1) := by rw [← List.drop_eq_getElem_cons hi, List.take_append_drop]
  unfold Fi.Ord Fi.names at hs
  have hp := List.pairwise_iff_getElem.1 hs
  unfold Fi.drop
  conv => lhs; rw [e]
  rw [List.filter_append, List.filter_cons]
  have h0 : (ms[i].1 != t) = false := by simp [bne, h]
  rw [h0]
  simp only [Bool.false_eq_true, if_false]
  congr 1
  · rw [List.filter_eq_self]
    intro m hm
    obtain ⟨j, hj, rfl⟩ := List.getElem_of_mem hm
    rw [List.length_take] at hj
    have := hp j i (by simp; omega) (by simp; omega) (by omega)
    simp only [List.getElem_map, List.getElem_take] at this ⊢
    rw [h] at this
    have hne : ms[j].1 ≠ t := by rintro e; rw [e, cb_self] at this; omega
    simpa [bne] using hne
  · rw [List.filter_eq_self]
    intro m hm
    obtain ⟨j, hj, rfl⟩ := List.getElem_of_mem hm
    rw [List.length_drop] at hj
    have := hp i (i + 1 + j) (by simp; omega) (by simp; omega) (by omega)
    simp only [List.getElem_map, List.getElem_drop] at this ⊢
    rw [h] at this
    have hne : ms[i + 1 + j].1 ≠ t := by rintro e; rw [e, cb_self] at this; omega
    simpa [bne] using hne

theorem fcs_cut (l : List Fl) (r : Nat) : (fcs l).take (r * 2) ++ (fcs l).drop ((r + 1) * 2) = fcs (l.take r ++ l.drop (r + 1)) := by
  rw [(fcs_take l r).1, (fcs_take l (r + 1)).2, fcs_append]

end Go.Proofs.YtjfikkjaifdkiaaGreatDoor

namespace Go.Proofs.YtjfikkjaifdkiaaGreatDoor
open Go.RowKit


/-- The name ahead of a place. -/
def prevN (l : List Fl) : Nat → Option (List UInt8)
  | 0 => none
  | k + 1 => (l[k]?).map (·.1)
theorem right_step {l : List Fl} {k : Nat} (h : k < l.length) : Fi.rightF (prevN l k) (l.drop k) =
    (Fi.okName l[k].1 && decide (l[k].2.length ≤ 4000) && (match prevN l k with | none => true | some q => decide (Lib.compareBytes q l[k].1 < 0)) && Fi.rightF (prevN l (k + 1)) (l.drop (k + 1))) := by
  have e : prevN l (k + 1) = some l[k].1 := by simp [prevN, List.getElem?_eq_getElem h]
  rw [drop_at h, e]
  cases prevN l k <;> rfl

end Go.Proofs.YtjfikkjaifdkiaaGreatDoor

namespace Go.Proofs.YtjfikkjaifdkiaaGreatDoor
open Go.RowKit

theorem drop_snoc {l : List Fl} {k : Nat} (h : k < l.length) (t : List UInt8) : Fi.drop (l.take (k + 1)) t = Fi.drop (l.take k) t ++ (if l[k].1 = t then [] else [l[k]]) := by
  unfold Fi.drop
  rw [take_snoc l k h, List.filter_append]
  congr 1
  by_cases hc : l[k].1 = t
  · rw [if_pos hc, List.filter_cons, if_neg (by simp [hc])]; rfl
  · rw [if_neg hc, List.filter_cons, if_pos (by simp [hc])]; rfl
theorem drop_le (l : List Fl) (t : List UInt8) : (Fi.drop l t).length ≤ l.length := List.length_filter_le _ _
theorem drop_lt (l : List Fl) (t : List UInt8) : decide ((Fi.drop l t).length < l.length) = Fi.has l t := by
  cases hq : Fi.has l t
  · rw [dropF_none hq]; simp
  · rw [decide_eq_true_iff]
    unfold Fi.drop
    rcases Nat.lt_or_ge (l.filter fun f => f.1 != t).length l.length with h | h
    · exact h
    · exfalso
      have := List.length_filter_eq_length_iff.1 (Nat.le_antisymm (List.length_filter_le _ _) h)
      unfold Fi.has Fi.names at hq
      rw [List.contains_iff_mem] at hq
      obtain ⟨f, hf, e⟩ := List.mem_map.1 hq
      have h2 := this f hf
      simp [e] at h2

set_option maxRecDepth 20000 in
set_option maxHeartbeats 4000000 in
/-- 'Get' of the reference. -/
theorem refFget_any (v : Value) (l : List Fl) (t : List UInt8) (w : World) (hl : Rf w v l) (hlen : l.length ≤ 1000000) :
    Calls Tryz.prog 44 #[v, .string (S t)] w fun e w' => e = .returned (.tuple #[.string (S (Fi.get l t).1), .bool (Fi.get l t).2]) ∧ Below w.heap.size w w' := by
  obtain ⟨a0, c0, rfl⟩ := hl.shape
  have HL := Lib.hid hl
  clear hl
  go_enter Tryz.func44, Tryz.ntmps44
  go_wp2_with fail
  go_loopw [6] (fun i wr => ∃ k : Nat, k ≤ l.length ∧ i = .int .i64 k ∧ Hid (Fi.get l t = Fi.get (l.drop k) t) ∧ Below w.heap.size w wr) (fun i _ => l.length - (intOf i).toNat)
  case atStart => exact ⟨0, Nat.zero_le _, rfl, Lib.hid rfl, Below.refl _ _⟩
  case round =>
    obtain ⟨k, hk, rfl, HE, hbw⟩ := hrel
    by_cases hlt : k < l.length
    · obtain ⟨b1, o1, rfl, c10, c11⟩ := (HL.out.below' hbw).at hlt
      have hg : Fi.get (l.drop k) t = if l[k].1 = t then (l[k].2, true) else Fi.get (l.drop (k + 1)) t := by
        rw [drop_at hlt]
        unfold Fi.get
        rw [List.find?_cons]
        by_cases hc : l[k].1 = t
        · rw [if_pos hc, show (l[k].1 == t) = true by simpa using hc]
        · rw [if_neg hc, show (l[k].1 == t) = false by simpa using hc]
      obtain ⟨⟨nm, tx⟩, hx⟩ : ∃ x, x = l[k] := ⟨_, rfl⟩
      rw [← hx] at c10 c11 hg
      clear hx
      by_cases hc : nm = t
      · have HG := Lib.hid (show Fi.get l t = (tx, true) by rw [HE.out, hg, if_pos hc])
        have hcb : (nm == t) = true := by simpa using hc
        clear hc hg
        go_wp2_with fail
        go_ret2
        exact ⟨by rw [HG.out]; rfl, hbw⟩
      · have HG := Lib.hid (show Fi.get l t = Fi.get (l.drop (k + 1)) t by rw [HE.out, hg, if_neg hc])
        have hcb : (nm == t) = false := by simpa using hc
        clear hc hg
        go_wp2_with fail
        go_roundw
        case rel => exact ⟨k + 1, by omega, by go_num, HG, hbw⟩
        case measure => simp [intOf]; omega
    · obtain rfl : k = l.length := by omega
      have HG := Lib.hid (show Fi.get l t = ([], false) by rw [HE.out, List.drop_length]; rfl)
      go_wp2_with fail
      go_ret2
      exact ⟨by rw [HG.out]; rfl, hbw⟩

set_option maxRecDepth 20000 in
set_option maxHeartbeats 4000000 in
/-- 'Drop' of the reference. -/
theorem refFdrop_any (v : Value) (l : List Fl) (t : List UInt8) (w : World) (hl : Rf w v l) (hlen : l.length ≤ 1000000) :
    Calls Tryz.prog 30 #[v, .string (S t)] w fun e w' => ∃ v', e = .returned (.tuple #[v', .bool (Fi.has l t)]) ∧ w'.ownsRow w.heap.size 45 2 v' (Fi.drop l t).length (fcs (Fi.drop l t)) ∧ Below w.heap.size w w' := by
  obtain ⟨a0, c0, rfl⟩ := hl.shape
  have HL := Lib.hid hl
  clear hl
  go_enter Tryz.func30, Tryz.ntmps30
  go_wp2_with fail
  go_loopw [6, 7] (fun v i wr => ∃ k : Nat, k ≤ l.length ∧ i = .int .i64 k ∧ wr.ownsRow w.heap.size 45 2 v (Fi.drop (l.take k) t).length (fcs (Fi.drop (l.take k) t)) ∧ Below w.heap.size w wr) (fun _ i _ => l.length - (intOf i).toNat)
  case atStart => exact ⟨0, Nat.zero_le _, rfl, World.ownsRow_made w #[] 0 (Nat.le_refl _) (by decide) rfl, (Below.refl _ _).alloc (Nat.le_refl _) _⟩
  case round =>
    obtain ⟨k, hk, rfl, hown, hbw⟩ := hrel
    have hsz := hbw.size
    by_cases hlt : k < l.length
    · obtain ⟨b1, o1, rfl, c10, c11⟩ := (HL.out.below' hbw).at hlt
      have HN := Lib.hid (drop_snoc hlt t)
      have hln := drop_le (l.take k) t
      rw [List.length_take, Nat.min_eq_left hk] at hln
      obtain ⟨⟨nm, tx⟩, hx⟩ : ∃ x, x = l[k] := ⟨_, rfl⟩
      rw [← hx] at c10 c11 HN
      simp only at HN
      clear hx
      obtain ⟨out, hout⟩ : ∃ out, out = Fi.drop (l.take k) t := ⟨_, rfl⟩
      rw [← hout] at hown hln HN
      clear hout
      by_cases hc : nm = t
      · have HX := Lib.hid (show Fi.drop (l.take (k + 1)) t = out by rw [HN.out, if_pos hc, List.append_nil])
        have hcb : (nm == t) = true := by simpa using hc
        clear hc
        go_wp2_with fail
        go_roundw
        case rel => exact ⟨k + 1, by omega, by go_num, (by rw [HX.out]; exact hown), hbw⟩
        case measure => simp [intOf]; omega
      · have HX := Lib.hid (show Fi.drop (l.take (k + 1)) t = out ++ [(nm, tx)] by rw [HN.out, if_neg hc])
        have hcb : (nm == t) = false := by simpa using hc
        clear hc
        go_wp2_with (first | (at_builtin; refine wp_app tyF rfl _ _ rfl w.heap.size hown rfl rfl rfl rfl fc_one (by omega) (by omega) hsz ?_; intro v3 w3 o3 b3 _) | fail)
        go_roundw
        case rel => exact ⟨k + 1, by omega, by go_num, (by rw [HX.out, fcs_snoc, List.length_append]; exact o3), hbw.trans b3⟩
        case measure => simp [intOf]; omega
    · obtain rfl : k = l.length := by omega
      rw [List.take_length] at hown
      have hdl := drop_lt l t
      obtain ⟨q, hq⟩ : ∃ q, q = Fi.has l t := ⟨_, rfl⟩
      rw [← hq] at hdl
      have HQ := Lib.hid hq
      obtain ⟨d, hd⟩ : ∃ d, d = Fi.drop l t := ⟨_, rfl⟩
      rw [← hd] at hdl hown
      have HD := Lib.hid hd
      clear hq hd
      have hdi : decide ((d.length : Int) < (l.length : Int)) = q := by rw [← hdl, decide_eq_decide]; omega
      obtain ⟨a5, c5, rfl⟩ := own_shape hown
      go_wp2_with fail
      go_ret2
      exact ⟨_, by rw [← HQ.out]; rfl, by rw [← HD.out]; exact hown, hbw⟩

end Go.Proofs.YtjfikkjaifdkiaaGreatDoor

namespace Go.Proofs.YtjfikkjaifdkiaaGreatDoor
open Go.RowKit

theorem fcs_ins (l : List Fl) (r : Nat) (f : Fl) : (fcs l).take (r * 2) ++ [.string (S f.1), .string (S f.2)] ++ (fcs l).drop (r * 2) = fcs (l.take r ++ f :: l.drop r) := by
  rw [(fcs_take l r).1, (fcs_take l r).2, fcs_append, fcs_cons]; simp

end Go.Proofs.YtjfikkjaifdkiaaGreatDoor

namespace Go.Proofs.YtjfikkjaifdkiaaGreatDoor
open Go.RowKit

theorem ord_drop {l : List Fl} (h : Fi.Ord l) (t : List UInt8) : Fi.Ord (Fi.drop l t) := by
  unfold Fi.Ord Sorted Fi.names at h ⊢
  exact h.sublist ((List.filter_sublist (l := l) (p := fun f => f.1 != t)).map _)
theorem putL_ref {l : List Fl} (h : Fi.Ord l) (f : Fl) {n : Nat} (hn : n = lb (Fi.names (Fi.drop l f.1)) f.1) : (Fi.drop l f.1).take n ++ f :: (Fi.drop l f.1).drop n = Fi.putL l f := by
  unfold Fi.putL
  have hat := Fi.has_at h f.1
  cases hq : Fi.has l f.1
  · rw [dropF_none hq] at hn ⊢
    rw [hn]; rfl
  · rw [hq] at hat
    obtain ⟨hr, e⟩ := of_decide_eq_true hat.symm
    obtain ⟨r, hrr⟩ : ∃ r, r = lb (Fi.names l) f.1 := ⟨_, rfl⟩
    have hd : Fi.drop l f.1 = l.take (lb (Fi.names l) f.1) ++ l.drop (lb (Fi.names l) f.1 + 1) := dropF_at h hr e
    have hp := List.pairwise_iff_getElem.1 h
    have hlbr : lb (Fi.names (Fi.drop l f.1)) f.1 = lb (Fi.names l) f.1 := by
      have hdl : (Fi.drop l f.1).length = l.length - 1 := by rw [hd, List.length_append, List.length_take, List.length_drop]; omega
      refine lb_eq (by rw [Fi.names_len, hdl]; omega) (fun x hx hxr => ?_) (fun hx => ?_)
      · rw [Fi.names_len] at hx
        rw [Fi.names_at hx]
        have e2 : (Fi.drop l f.1)[x] = l[x]'(by omega) := by
          simp only [hd]
          rw [List.getElem_append_left (by rw [List.length_take]; omega), List.getElem_take]
        rw [e2]
        have := hp x (lb (Fi.names l) f.1) (by rw [Fi.names_len]; omega) (by rw [Fi.names_len]; omega) hxr
        rw [Fi.names_at (by omega), Fi.names_at hr, e] at this
        exact this
      · rw [Fi.names_len] at hx
        rw [Fi.names_at hx]
        have e2 : (Fi.drop l f.1)[lb (Fi.names l) f.1] = l[lb (Fi.names l) f.1 + 1]'(by omega) := by
          simp only [hd]
          rw [List.getElem_append_right (by rw [List.length_take]; omega), List.getElem_drop]
          congr 1
          rw [List.length_take]; omega
        rw [e2]
        have := hp (lb (Fi.names l) f.1) (lb (Fi.names l) f.1 + 1) (by rw [Fi.names_len]; omega) (by rw [Fi.names_len]; omega) (by omega)
        rw [Fi.names_at hr, Fi.names_at (by omega), e] at this
        rw [cb_swap]
        omega
    rw [hlbr] at hn
    rw [hn, hd]
    have hl1 : (l.take (lb (Fi.names l) f.1)).length = lb (Fi.names l) f.1 := by rw [List.length_take]; omega
    rw [List.take_append_of_le_length (by omega), List.take_of_length_le (by omega), List.drop_append_of_le_length (by omega), List.drop_eq_nil_of_le (by omega), List.nil_append]
    rw [if_pos rfl, List.set_eq_take_append_cons_drop, if_pos hr]

/-- The files from a place on. -/
theorem rf_tail {w : World} {b o n c k : Nat} {l : List Fl} (h : Rf w (.slice (some ⟨b, o, none⟩) n c) l) (hk : k < l.length) : Rd w 2 (.slice (some ⟨b, o + k * 2, none⟩) (l.length - k) (c - k)) (l.length - k) (fcs (l.drop k)) := by
  have hc := Rd.cap h
  obtain ⟨a, c', e⟩ := h.shape
  cases e
  refine ⟨by rw [fcs_length, List.length_drop], ?_⟩
  rcases h.2 with ⟨_, h2⟩ | ⟨b', o', cap, hv, hlt, hcell, _⟩
  · omega
  · cases hv
    refine .inr ⟨b, o + k * 2, c - k, rfl, fun _ => hlt (by omega), fun j u hj => ?_, by omega⟩
    rw [← (fcs_take l k).2, List.getElem?_drop] at hj
    rw [Nat.add_assoc]
    exact hcell _ _ hj

set_option maxRecDepth 20000 in
set_option maxHeartbeats 4000000 in
/-- 'Put' of the reference. -/
theorem refFput_any (v : Value) (l : List Fl) (f : Fl) (w : World) (hl : Rf w v l) (hlen : l.length ≤ 100000) (hs : Fi.Ord l) (hf : f.1.length ≤ 9223372036854775807) :
    Calls Tryz.prog 12 #[v, .agg #[.string (S f.1), .string (S f.2)]] w fun e w' => ∃ v', e = .returned (.tuple #[v', .int .i64 (Fi.put l f).2]) ∧ w'.ownsRow w.heap.size 45 2 v' (Fi.put l f).1.length (fcs (Fi.put l f).1) ∧ Below w.heap.size w w' := by
  have hPL := putL_ref hs f rfl
  obtain ⟨nm, tx⟩ := f
  simp only at hf hPL
  have HR := Lib.hid hl
  obtain ⟨a0, c0, rfl⟩ := hl.shape
  clear hl
  obtain ⟨w0, hw0⟩ : ∃ w0, w0 = w.alloc (.cells #[.string (S nm), .string (S tx)] 45) := ⟨_, rfl⟩
  have hb0 : Below w.heap.size w w0 := by rw [hw0]; exact (Below.refl _ _).alloc (Nat.le_refl _) _
  have hg0 : w0.heap[w.heap.size]? = some (.cells #[.string (S nm), .string (S tx)] 45 (0, 0)) := by rw [hw0]; exact heap_alloc_new w _
  have hs0 := hb0.size
  have x0 := pair_cell0 hg0
  have x1 := pair_cell1 hg0
  have HDR := Lib.hid (refFdrop_any _ l nm w0 (HR.out.below' hb0) (by omega))
  have hpt : Fi.put l (nm, tx) = if Fi.okName nm = false then ([], 2) else if 4000 < tx.length ∨ (Fi.has l nm = false ∧ 32 ≤ l.length) then ([], 3) else (Fi.putL l (nm, tx), 0) := rfl
  have hrl := drop_le l nm
  obtain ⟨rest, hrest⟩ : ∃ rest, rest = Fi.drop l nm := ⟨_, rfl⟩
  rw [← hrest] at HDR hPL hrl
  obtain ⟨q, hq⟩ : ∃ q, q = Fi.has l nm := ⟨_, rfl⟩
  rw [← hq] at HDR hpt
  have HPL := Lib.hid hPL
  have HPT := Lib.hid hpt
  have HN := Lib.hid (fun w => refName_any nm hf w)
  obtain ⟨isn, hisn⟩ : ∃ b, b = Fi.okName nm := ⟨_, rfl⟩
  rw [← hisn] at HN HPT
  have HW := Lib.hid hw0
  clear hrest hq hpt hisn hw0 hs hPL
  cases isn
  · have HX := Lib.hid (show Fi.put l (nm, tx) = ([], 2) from HPT.out)
    rw [HX.out]
    go_enter Tryz.func12, Tryz.ntmps12
    go_wp2_with fail
    rw [← HW.out]
    (with_reducible refine (HN.out _).mono ?_); rintro e w3 ⟨rfl, rfl⟩
    go_wp2_with fail
    go_ret2
    exact ⟨_, rfl, World.ownsRow_nil _ _ _ _, hb0⟩
  · go_enter Tryz.func12, Tryz.ntmps12
    go_wp2_with fail
    rw [← HW.out]
    (with_reducible refine (HN.out _).mono ?_); rintro e w3 ⟨rfl, rfl⟩
    go_wp2_with fail
    (with_reducible refine HDR.out.mono ?_); rintro e w4 ⟨v4, rfl, o4, b4⟩
    have hg4 := (b4.block _ (row_lt hg0)).trans hg0
    have y0 := pair_cell0 hg4
    have y1 := pair_cell1 hg4
    have B4 := hb0.trans (b4.mono hs0)
    clear x0 x1 HDR
    by_cases hbad : 4000 < tx.length ∨ (q = false ∧ 32 ≤ l.length)
    · have HX := Lib.hid (show Fi.put l (nm, tx) = ([], 3) by rw [HPT.out, if_neg (by simp), if_pos hbad])
      by_cases hbig : 4000 < tx.length
      · have hbi : (4000 : Int) < (tx.length : Int) := by omega
        go_wp2_with fail
        go_ret2
        exact ⟨.slice none 0 0, by rw [HX.out]; rfl, by rw [HX.out]; exact World.ownsRow_nil _ _ _ _, B4⟩
      · have hbi : decide ((4000 : Int) < (tx.length : Int)) = false := by simp; omega
        obtain ⟨rfl, hfull⟩ := hbad.resolve_left hbig
        have hfi : (32 : Int) ≤ (l.length : Int) := by omega
        go_wp2_with fail
        go_ret2
        exact ⟨.slice none 0 0, by rw [HX.out]; rfl, by rw [HX.out]; exact World.ownsRow_nil _ _ _ _, B4⟩
    · have HX := Lib.hid (show Fi.put l (nm, tx) = (Fi.putL l (nm, tx), 0) by rw [HPT.out, if_neg (by simp), if_neg hbad])
      have hbi : decide ((4000 : Int) < (tx.length : Int)) = false := by simp; omega
      have hfq : q = true ∨ (q = false ∧ decide ((32 : Int) ≤ (l.length : Int)) = false) := by
        cases q
        · right; simp at hbad ⊢; omega
        · exact .inl rfl
      obtain ⟨a4, c4, rfl⟩ := own_shape o4
      have RR := Lib.hid (rf_own o4)
      rcases hfq with rfl | ⟨rfl, hfi⟩
      all_goals (
        go_wp2_with fail
        go_loopw [8, 9] (fun v i wr => ∃ k : Nat, k ≤ rest.length ∧ i = .int .i64 k ∧ wr.ownsRow w4.heap.size 45 2 v (rest.take k).length (fcs (rest.take k)) ∧ Hid (∀ x (h : x < (Fi.names rest).length), x < k → Lib.compareBytes (Fi.names rest)[x] nm < 0) ∧ Below w4.heap.size w4 wr) (fun _ i _ => rest.length - (intOf i).toNat)
        case atStart => exact ⟨0, Nat.zero_le _, rfl, World.ownsRow_made w4 #[] 0 (Nat.le_refl _) (by decide) rfl, Lib.hid (fun x _ h => by omega), (Below.refl _ _).alloc (Nat.le_refl _) _⟩
        case round =>
          obtain ⟨k, hk, rfl, hown, HLT, hbw⟩ := hrel
          have hsz := hbw.size
          have hg5 := (hbw.block _ (row_lt hg4)).trans hg4
          have z0 := pair_cell0 hg5
          have z1 := pair_cell1 hg5
          have B5 := B4.trans (hbw.mono B4.size)
          by_cases hlt : k < rest.length
          · obtain ⟨b1, o1, rfl, c10, c11⟩ := (RR.out.below' hbw).at hlt
            have hnk : (Fi.names rest)[k]'(by rw [Fi.names_len]; exact hlt) = rest[k].1 := Fi.names_at hlt
            have HTS := Lib.hid (take_snoc rest k hlt)
            obtain ⟨⟨n2, t2⟩, hx⟩ : ∃ x, x = rest[k] := ⟨_, rfl⟩
            rw [← hx] at c10 c11 hnk HTS
            simp only at hnk
            clear hx
            have hln : (rest.take k).length = k := by rw [List.length_take]; omega
            have hkl : (k : Int) < (rest.length : Int) := by omega
            have hk0 : (0 : Int) ≤ (k : Int) := by omega
            cases hless : Op.bytesLess n2 nm
            · have HLB := Lib.hid (show k = lb (Fi.names rest) nm from (lb_eq (by rw [Fi.names_len]; omega) HLT.out (fun hh => by
                rw [hnk]
                rw [less_is] at hless
                exact of_decide_eq_false hless)).symm)
              go_wp2_with fail
              go_quiet (fail)
              obtain ⟨W, hW⟩ : ∃ W, W = wr.drewN nq := ⟨_, rfl⟩
              have oW : W.ownsRow w4.heap.size 45 2 u8 (rest.take k).length (fcs (rest.take k)) := by rw [hW]; exact own_drewN hown _
              have BW : Below w4.heap.size w4 W := by rw [hW]; exact below_drewN hbw _
              have y5 : W.cell? ⟨w.heap.size, 0, none⟩ = some (.string (S nm)) := by rw [hW]; exact z0
              have y6 : W.cell? ⟨w.heap.size, 1, none⟩ = some (.string (S tx)) := by rw [hW]; exact z1
              rw [← hW]
              clear hW c10 c11 z0 z1 hown hbw
              rw [hln] at oW
              have hcap := Rd.cap RR.out
              have hck : ¬ (c4 = k) := by omega
              obtain ⟨a8, c8, hu8⟩ := own_shape oW
              subst hu8
              have hk9 : (k : Int) ≤ (rest.length : Int) := by omega
              go_wp2_with (first
                | (at_builtin; refine wp_app tyF rfl _ _ rfl w4.heap.size oW rfl rfl rfl rfl fc_one (by omega) (by omega) BW.size ?_; intro v6 w6 o6 b6 _; have B6 := BW.trans b6; have r6 := RR.out.below' B6; clear b6)
                | (at_builtin; refine wp_app_all tyF (m := rest.length - k) (news := fcs (rest.drop k)) rfl _ _ rfl w4.heap.size o6 (rf_tail r6 hlt) rfl rfl fcs_one (by omega) (by omega) B6.size ?_; intro v7 w7 o7 b7 _)
                | fail)
              go_ret2
              refine ⟨_, by rw [HX.out]; rfl, ?_, B4.trans ((B6.trans b7).mono B4.size)⟩
              have hput : Fi.putL l (nm, tx) = rest.take k ++ (nm, tx) :: rest.drop k := by rw [HLB.out]; exact HPL.out.symm
              have hpl : (rest.take k ++ (nm, tx) :: rest.drop k).length = k + 1 + (rest.length - k) := by simp only [List.length_append, List.length_cons, List.length_drop, hln]; omega
              have hpf : fcs (rest.take k) ++ [.string (S nm), .string (S tx)] ++ fcs (rest.drop k) = fcs (rest.take k ++ (nm, tx) :: rest.drop k) := by rw [fcs_append, fcs_cons]; simp
              rw [HX.out, hput, hpl, ← hpf]
              exact own_mono o7 B4.size
            · have HL2 := Lib.hid (show ∀ x (h : x < (Fi.names rest).length), x < k + 1 → Lib.compareBytes (Fi.names rest)[x] nm < 0 by
                intro x h hxk
                by_cases e : x = k
                · subst e
                  rw [hnk]
                  rw [less_is] at hless
                  exact of_decide_eq_true hless
                · exact HLT.out x h (by omega))
              go_wp2_with fail
              go_quiet (fail)
              obtain ⟨W, hW⟩ : ∃ W, W = wr.drewN nq := ⟨_, rfl⟩
              have oW : W.ownsRow w4.heap.size 45 2 u8 (rest.take k).length (fcs (rest.take k)) := by rw [hW]; exact own_drewN hown _
              have BW : Below w4.heap.size w4 W := by rw [hW]; exact below_drewN hbw _
              have y5 : W.cell? ⟨b1, o1 + k * 2, none⟩ = some (.string (S n2)) := by rw [hW]; exact c10
              have y6 : W.cell? ⟨b1, o1 + k * 2 + 1, none⟩ = some (.string (S t2)) := by rw [hW]; exact c11
              rw [← hW]
              clear hW c10 c11 z0 z1 hown hbw
              go_wp2_with (first
                | (at_builtin; refine wp_app tyF rfl _ _ rfl w4.heap.size oW rfl rfl rfl rfl fc_one (by omega) (by omega) BW.size ?_; intro v6 w6 o6 b6 _)
                | fail)
              go_roundw
              case rel => exact ⟨k + 1, by omega, by go_num, (by rw [HTS.out, fcs_snoc, List.length_append]; exact o6), HL2, BW.trans b6⟩
              case measure => simp [intOf]; omega
          · obtain rfl : k = rest.length := by omega
            have HLB := Lib.hid (show rest.length = lb (Fi.names rest) nm from (lb_eq (by rw [Fi.names_len]; exact Nat.le_refl _) HLT.out (fun hh => by rw [Fi.names_len] at hh; omega)).symm)
            rw [List.take_length] at hown
            have hno : decide ((rest.length : Int) < (rest.length : Int)) = false := by simp
            go_wp2_with fail
            go_quiet (fail)
            obtain ⟨W, hW⟩ : ∃ W, W = wr.drewN nq := ⟨_, rfl⟩
            have oW : W.ownsRow w4.heap.size 45 2 u8 rest.length (fcs rest) := by rw [hW]; exact own_drewN hown _
            have BW : Below w4.heap.size w4 W := by rw [hW]; exact below_drewN hbw _
            have y5 : W.cell? ⟨w.heap.size, 0, none⟩ = some (.string (S nm)) := by rw [hW]; exact z0
            have y6 : W.cell? ⟨w.heap.size, 1, none⟩ = some (.string (S tx)) := by rw [hW]; exact z1
            rw [← hW]
            clear hW z0 z1 hown hbw
            obtain ⟨a8, c8, hu8⟩ := own_shape oW
            subst hu8
            rcases o4.2 with ⟨hn4, h0⟩ | ⟨g, cap, cur, hv, hgB, hg, h1, h2, h3, h4⟩
            · have hr0 : rest = [] := List.eq_nil_of_length_eq_zero h0
              subst hr0
              cases hn4
              go_wp2_with (first
                | (at_builtin; refine wp_app tyF rfl _ _ rfl w4.heap.size oW rfl rfl rfl rfl fc_one (by omega) (by omega) BW.size ?_; intro v6 w6 o6 b6 _; have B6 := BW.trans b6; clear b6)
                | (at_builtin; refine wp_app_all tyF (m := 0) (news := []) rfl _ _ rfl w4.heap.size o6 ⟨rfl, .inl ⟨by first | exact .inl rfl | exact .inr ⟨_, _, rfl⟩, rfl⟩⟩ rfl rfl (by simp) (by omega) (by omega) B6.size ?_; intro v7 w7 o7 b7 _)
                | fail)
              go_ret2
              refine ⟨_, by rw [HX.out]; rfl, ?_, B4.trans ((B6.trans b7).mono B4.size)⟩
              have hput : Fi.putL l (nm, tx) = ([] : List Fl) ++ [(nm, tx)] := by rw [← HPL.out]; simp
              rw [HX.out, hput, fcs_snoc, List.length_append]
              rw [List.append_nil, Nat.add_zero] at o7
              exact own_mono o7 B4.size
            · cases hv
              have hk9 : (0 : Int) ≤ (rest.length : Int) := by omega
              by_cases hcr : c4 = rest.length
              · go_wp2_with (first
                | (at_builtin; refine wp_app tyF rfl _ _ rfl w4.heap.size oW rfl rfl rfl rfl fc_one (by omega) (by omega) BW.size ?_; intro v6 w6 o6 b6 _; have B6 := BW.trans b6; clear b6)
                | (at_builtin; refine wp_app_all tyF (m := 0) (news := []) rfl _ _ rfl w4.heap.size o6 ⟨rfl, .inl ⟨by first | exact .inl rfl | exact .inr ⟨_, _, rfl⟩, rfl⟩⟩ rfl rfl (by simp) (by omega) (by omega) B6.size ?_; intro v7 w7 o7 b7 _)
                | fail)
                go_ret2
                refine ⟨_, by rw [HX.out]; rfl, ?_, B4.trans ((B6.trans b7).mono B4.size)⟩
                have hput : Fi.putL l (nm, tx) = rest ++ [(nm, tx)] := by rw [← HPL.out, ← HLB.out, List.take_length, List.drop_length]
                rw [HX.out, hput, fcs_snoc, List.length_append]
                rw [List.append_nil, Nat.add_zero] at o7
                exact own_mono o7 B4.size
              · go_wp2_with (first
                | (at_builtin; refine wp_app tyF rfl _ _ rfl w4.heap.size oW rfl rfl rfl rfl fc_one (by omega) (by omega) BW.size ?_; intro v6 w6 o6 b6 _; have B6 := BW.trans b6; clear b6)
                | (at_builtin; refine wp_app_all tyF (m := 0) (news := []) rfl _ _ rfl w4.heap.size o6 ⟨rfl, .inl ⟨by first | exact .inl rfl | exact .inr ⟨_, _, rfl⟩, rfl⟩⟩ rfl rfl (by simp) (by omega) (by omega) B6.size ?_; intro v7 w7 o7 b7 _)
                | fail)
                go_ret2
                refine ⟨_, by rw [HX.out]; rfl, ?_, B4.trans ((B6.trans b7).mono B4.size)⟩
                have hput : Fi.putL l (nm, tx) = rest ++ [(nm, tx)] := by rw [← HPL.out, ← HLB.out, List.take_length, List.drop_length]
                rw [HX.out, hput, fcs_snoc, List.length_append]
                rw [List.append_nil, Nat.add_zero] at o7
                exact own_mono o7 B4.size
      )

end Go.Proofs.YtjfikkjaifdkiaaGreatDoor
