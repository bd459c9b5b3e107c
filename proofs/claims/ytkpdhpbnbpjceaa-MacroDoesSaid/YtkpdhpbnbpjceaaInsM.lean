
/- The library's Insert of one element, at whatever place, walked. No condition. -/
import Derived.Test.YtkpdhpbnbpjceaaProg
import Derived.Test.YtkpdhpbnbpjceaaRow
namespace Go.Proofs.Ytkpdhpbnbpjceaa
open Go.RowKit Go.Shelf Go.Lib

theorem tyMac9 : SlTy Try.prog 51 55 3 48 := SlTy.mk' (z := (.agg #[.string ⟨#[]⟩, .int .i64 0, .slice none 0 0])) Try.underlying51 (by kernel_rfl) rfl (by decide)

/-- What the library's Insert of one element at a place does. -/
def InsM (n i : Nat) : Prop := ∀ (B : Nat) (v : Value) (xs news : List Value) (w : World) (gv : Nat), w.ownsRow B 55 3 v n xs → news.length = 3 → w.heap[gv]? = some (.cells news.toArray 55 (0, 0)) → v.ownBlock ≠ some gv → (∀ u ∈ xs ++ news, u.oneCell' = true) → B ≤ w.heap.size → n ≤ 1000000 →
  Calls Try.prog 47 #[v, .int .i64 (i : Int), .slice (some ⟨gv, 0, none⟩) 1 1] w fun e w' => ∃ v', e = .returned v' ∧ w'.ownsRow B 55 3 v' (n + 1) (xs.take (i * 3) ++ news ++ xs.drop (i * 3)) ∧ w.grownBy w' v.ownBlock ∧ Near w v v'

set_option maxRecDepth 20000 in
set_option maxHeartbeats 1600000 in
theorem insM_end (n : Nat) : InsM n n := by
  intro B v xs news w gv hown hnl hgv hne h1 hB hn
  have hrd : Rd w 3 (.slice (some ⟨gv, 0, none⟩) 1 1) 1 news := ⟨by rw [hnl], .inr ⟨gv, 0, 1, rfl, fun _ => row_lt hgv, fun j u hj => by rw [Nat.zero_add, row_cell hgv]; simpa using hj, Nat.le_refl _⟩⟩
  have hle : xs.take (n * 3) = xs := List.take_of_length_le (by rw [hown.1]; omega)
  have hde : xs.drop (n * 3) = [] := List.drop_eq_nil_of_le (by rw [hown.1]; omega)
  rw [hle, hde, List.append_nil]
  clear hle hde
  have hone : ∀ u ∈ news, u.oneCell' = true := fun u hu => h1 u (List.mem_append_right _ hu)
  clear h1
  obtain ⟨av, cv, rfl⟩ := own_shape hown
  go_enter Try.func47, Try.ntmps47
  go_wp2_with (at_builtin; refine wp_app_all2 tyMac9 rfl _ _ rfl B hown hrd rfl rfl hone (by omega) (by omega) hB ?_; intro v5 w5 hown5 b5 hg5 hnear)
  all_goals (go_ret; first | exact ⟨_, rfl, hown5, hg5, hnear⟩ | (cases h; exact ⟨_, rfl, hown5, hg5, hnear⟩))

set_option maxRecDepth 20000 in
set_option maxHeartbeats 4000000 in
/-- There is room: in place. -/
theorem insM_shift (B b n c i gv : Nat) (xs news : List Value) (w : World) (hown : w.ownsRow B 55 3 (.slice (some ⟨b, 0, none⟩) n c) n xs) (hi : i < n) (hroom : n + 1 ≤ c) (hnl : news.length = 3) (hgv : w.heap[gv]? = some (.cells news.toArray 55 (0, 0))) (hne : gv ≠ b) (h1 : ∀ u ∈ xs, u.oneCell' = true) (h2 : ∀ u ∈ news, u.oneCell' = true) (hn : n ≤ 1000000) :
    Calls Try.prog 47 #[.slice (some ⟨b, 0, none⟩) n c, .int .i64 (i : Int), .slice (some ⟨gv, 0, none⟩) 1 1] w fun e w' => e = .returned (.slice (some ⟨b, 0, none⟩) (n + 1) c) ∧ w' = (w.drew.setCells b ((i + 1) * 3) (xs.drop (i * 3))).setCells b (i * 3) news := by
  have hxl := hown.1
  obtain ⟨cur, hrow, hcs⟩ := own_row hown
  have hsz := own_size hown
  have hc63 : c ≤ 9223372036854775807 := by have := hsz.2; unfold maxLen at this; omega
  obtain ⟨i0, z0, hi0, hz0, hz1, hz2, hz3⟩ := tyMac9.hi
  have hsi : (Try.prog.info? 55).map (·.size) = some 3 := by rw [hi0]; simp [hz1]
  have hszE : ∀ w, (Go.sizeOf 55).run Try.prog w = .ok 3 w := fun w => by simp [Go.sizeOf, typeInfo, hi0, hz1]
  have hq1 : ¬ ((1 : Int) = 0) := by omega
  have hq2 : ¬ ((i : Int) = (n : Int)) := by omega
  have hdl : (xs.drop (i * 3)).length = (n - i) * 3 := by rw [List.length_drop, hxl]; omega
  have hov : ∀ lb cb, (callFunc 58 #[.slice (some ⟨gv, 0, none⟩) 1 1, .slice (some ⟨b, (i + 1) * 3, none⟩) lb cb]).run Try.prog w = .ok (.value (.bool false)) w := fun lb cb => by
    rw [run_callFunc_extern Try.func58 (by kernel_rfl) (by kernel_rfl) (by kernel_rfl) (e := Extern.SlicesOverlaps.overlaps #[51, 51] #[4]) (by kernel_rfl),
      Lib.run_overlaps_apart w 51 4 55 Try.underlying51 3 hszE ⟨gv, 0, none⟩ ⟨b, (i + 1) * 3, none⟩ 1 1 lb cb hne 55 55 news.toArray.size cur.size (by simp [World.shape?, hgv]) (by simp [World.shape?, hrow]) (by rw [hcs]; omega) (row_free hgv 0) (row_free hgv _)]
    rfl
  have hsp : ∀ j, j < c * 3 → (w.cell? ⟨b, j, none⟩).isSome = true := fun j hj => by rw [row_cell hrow, Array.getElem?_eq_getElem (by omega)]; rfl
  have hcellx : ∀ j v, xs[j]? = some v → w.cell? ⟨b, j, none⟩ = some v := fun j v hj => by
    have := hown.cells (g := b) rfl j v hj
    rw [addr_add, Nat.zero_add] at this; exact this
  have hcp1 : ∀ ty dc sc, (Builtin.copy_ #[51, 51] ty #[.slice (some ⟨b, (i + 1) * 3, none⟩) (n - i) dc, .slice (some ⟨b, i * 3, none⟩) (n + 1 - i) sc]).run Try.prog w.drew = .ok (goInt (n - i : Nat)) (w.drew.setCells b ((i + 1) * 3) (xs.drop (i * 3))) := fun ty dc sc =>
    run_copyK w.drew _ _ ty 55 3 b ((i + 1) * 3) (n - i) dc ⟨b, i * 3, none⟩ (n + 1 - i) sc (n - i) (xs.drop (i * 3)) Try.underlying51 hsi (by simp only [Nat.min_def]; split <;> omega) hdl
      (fun j v hj => by rw [addr_add]; exact hcellx (i * 3 + j) v (by rwa [List.getElem?_drop] at hj))
      (fun j hj => hsp _ (by omega)) (fun j hj => row_free (W := w.drew) hrow _) (fun v hv => h1 v (List.mem_of_mem_drop hv))
  obtain ⟨W1, hW1⟩ : ∃ W1, W1 = w.drew.setCells b ((i + 1) * 3) (xs.drop (i * 3)) := ⟨_, rfl⟩
  have hsp1 : ∀ j, j < c * 3 → (W1.cell? ⟨b, j, none⟩).isSome = true := fun j hj => by
    rw [hW1]
    have h := isSome_setCells b (xs.drop (i * 3)) ((i + 1) * 3) w.drew (fun t ht => hsp _ (by omega)) j (hsp j hj)
    exact h
  have hcp2 : ∀ (W : World), (∀ x, W.cell? x = W1.cell? x) → (∀ x, W.frozen? x = W1.frozen? x) → ∀ ty dc, (Builtin.copy_ #[51, 51] ty #[.slice (some ⟨b, i * 3, none⟩) (n + 1 - i) dc, .slice (some ⟨gv, 0, none⟩) 1 1]).run Try.prog W = .ok (goInt 1) (W.setCells b (i * 3) news) := fun W hWc hWf ty dc =>
    run_copyK W _ _ ty 55 3 b (i * 3) (n + 1 - i) dc ⟨gv, 0, none⟩ 1 1 1 news Try.underlying51 hsi (by simp only [Nat.min_def]; split <;> omega) (by rw [hnl])
      (fun j v hj => by
        rw [addr_add, hWc, hW1, World.cell?_setCells_out b _ _ _ _ (fun h _ => absurd h hne)]
        rw [Nat.zero_add]
        exact (row_cell hgv j).trans (by simpa using hj))
      (fun j hj => by rw [hWc]; exact hsp1 _ (by omega)) (fun j hj => by rw [hWf, hW1, World.frozen?_setCells]; exact row_free (W := w.drew) hrow _) h2
  rw [← hW1] at hcp1
  clear hown hrow hgv hsp hcellx hsp1 hszE
  have mixed : Try.prog.follows Departure.mixedOrders = true := by kernel_rfl
  have hw1 : IntKind.i64.wrap ((i : Int) + 1) = (i : Int) + 1 := (Go.IntWalk.i64_left _).trans (Go.IntWalk.wrap64_in _ (by omega))
  have hb1 : (0 : Int) ≤ (i : Int) + 1 := by omega
  have hb2 : (i : Int) + 1 ≤ (n : Int) + 1 := by omega
  have hb3 : (i : Int) ≤ (n : Int) + 1 := by omega
  have htn : ((i : Int) + 1).toNat = i + 1 := by omega
  have hci : ¬ (c = i + 1) := by omega
  have hci2 : ¬ (c = i) := by omega
  go_enter Try.func47, Try.ntmps47
  go_wp2_with (simp only [hov])
  go_region_law_o (refine step_copy_runI rfl _ _ 51 51 rfl _ _ (by simp [Act.eval, Act.put]) (by simp [Act.eval, Act.put]) (hcp1 _ _ _) ?_)
  go_wp2_with (at_builtin; refine wpList_copy_runI _ rfl _ _ 51 51 rfl _ _ rfl rfl (hcp2 _ (fun _ => rfl) (fun _ => rfl) _ _) ?_)
  go_ret
  first | exact ⟨rfl, rfl⟩ | exact ⟨rfl, by rw [hW1]⟩

set_option maxRecDepth 20000 in
set_option maxHeartbeats 4000000 in
/-- There is no room: a new row. -/
theorem insM_grow (B b n c i gv : Nat) (xs news : List Value) (w : World) (hown : w.ownsRow B 55 3 (.slice (some ⟨b, 0, none⟩) n c) n xs) (hi : i < n) (hroom : c < n + 1) (hnl : news.length = 3) (hgv : w.heap[gv]? = some (.cells news.toArray 55 (0, 0))) (h1 : ∀ u ∈ xs, u.oneCell' = true) (h2 : ∀ u ∈ news, u.oneCell' = true) (hn : n ≤ 1000000) :
    Calls Try.prog 47 #[.slice (some ⟨b, 0, none⟩) n c, .int .i64 (i : Int), .slice (some ⟨gv, 0, none⟩) 1 1] w fun e w' => e = .returned (.slice (some ⟨w.heap.size, 0, none⟩) (n + 1) (grownCap w (n + 1) c 55)) ∧
      w' = (((w.alloc (.cells ((xs.take (i * 3)).toArray ++ Builtin.zeroCells (Value.cells (.agg #[.string ⟨#[]⟩, .int .i64 0, .slice none 0 0])) (n + 1 - i) ++ Builtin.zeroCells (Value.cells (.agg #[.string ⟨#[]⟩, .int .i64 0, .slice none 0 0])) (grownCap w (n + 1) c 55 - (n + 1))) 55)).drew.setCells w.heap.size (i * 3) news).drew).setCells w.heap.size ((i + 1) * 3) (xs.drop (i * 3)) := by
  have hxl := hown.1
  obtain ⟨cur, hrow, hcs⟩ := own_row hown
  have hsz := own_size hown
  obtain ⟨i0, hi0, hz0, hz1, hz2⟩ := info_parts (show (Try.prog.info? 55).map (fun i => (i.zero, i.size, i.bytes)) = some (some (.agg #[.string ⟨#[]⟩, .int .i64 0, .slice none 0 0]), 3, 48) by kernel_rfl)
  have hsi : (Try.prog.info? 55).map (·.size) = some 3 := by rw [hi0]; simp [hz1]
  have hq1 : ¬ ((1 : Int) = 0) := by omega
  have hq2 : ¬ ((i : Int) = (n : Int)) := by omega
  have hq3 : (c : Int) < (n : Int) + 1 := by omega
  have hbw : b < w.heap.size := row_lt hrow
  have hvw : gv < w.heap.size := row_lt hgv
  have hkk : (n : Int) + 1 - (i : Int) = ((n + 1 - i : Nat) : Int) := by omega
  have hik : i + (n + 1 - i) = n + 1 := by omega
  have hdl : (xs.drop (i * 3)).length = (n - i) * 3 := by rw [List.length_drop, hxl]; omega
  have hcellx : ∀ j v, xs[j]? = some v → w.cell? ⟨b, j, none⟩ = some v := fun j v hj => by
    have := hown.cells (g := b) rfl j v hj
    rw [addr_add, Nat.zero_add] at this; exact this
  have hold : (Builtin.firstCells i0.size i (.slice (some ⟨b, 0, none⟩) i c)).run Try.prog w.drew = .ok (xs.take (i * 3)).toArray w.drew := by
    rw [hz1]
    exact run_firstCells_some w.drew 3 i ⟨b, 0, none⟩ i c (xs.take (i * 3)) (by rw [List.length_take, hxl]; omega) (fun j v hj => by
      rw [addr_add, Nat.zero_add]
      rw [List.getElem?_take] at hj
      split at hj
      · exact hcellx j v hj
      · cases hj)
  have hrz : ∀ ty, (Builtin.append_ #[51, 3] ty #[.slice (some ⟨b, 0, none⟩) i c, .int .i64 ((n : Int) + 1 - (i : Int))]).run Try.prog w =
      .ok (.slice (some ⟨w.heap.size, 0, none⟩) (n + 1) (grownCap w (n + 1) c 55)) (w.drew.alloc (.cells ((xs.take (i * 3)).toArray ++ Builtin.zeroCells (Value.cells (.agg #[.string ⟨#[]⟩, .int .i64 0, .slice none 0 0])) (n + 1 - i) ++ Builtin.zeroCells (Value.cells (.agg #[.string ⟨#[]⟩, .int .i64 0, .slice none 0 0])) (grownCap w (n + 1) c 55 - (n + 1))) 55)) := fun ty => by
    have h := Lib.run_append_grow_zeros w 51 3 ty 55 i0 _ .i64 .i64 Try.underlying51 Try.underlying3 hi0 hz0 (some ⟨b, 0, none⟩) i c (xs.take (i * 3)) hold (n + 1 - i) (by omega) (by omega) (by omega) (by omega) (by rw [hz2]; omega) (by rw [hz2, hik]; exact growslice_fits hroom (by omega))
    rw [hik] at h
    rw [hkk]
    exact h
  obtain ⟨G, hG⟩ : ∃ G, G = grownCap w (n + 1) c 55 := ⟨_, rfl⟩
  obtain ⟨ROW, hROW⟩ : ∃ ROW : Array Value, ROW = (xs.take (i * 3)).toArray ++ Builtin.zeroCells (Value.cells (.agg #[.string ⟨#[]⟩, .int .i64 0, .slice none 0 0])) (n + 1 - i) ++ Builtin.zeroCells (Value.cells (.agg #[.string ⟨#[]⟩, .int .i64 0, .slice none 0 0])) (G - (n + 1)) := ⟨_, rfl⟩
  rw [← hG] at hrz ⊢
  rw [← hROW] at hrz ⊢
  have hRl : (n + 1) * 3 ≤ ROW.size := by
    rw [hROW]
    simp [Builtin.zeroCells, Value.cells, hxl]
    omega
  obtain ⟨W1, hW1⟩ : ∃ W1, W1 = w.drew.alloc (.cells ROW 55) := ⟨_, rfl⟩
  rw [← hW1] at hrz
  have hN : ∀ j, j < (n + 1) * 3 → (W1.cell? ⟨w.heap.size, j, none⟩).isSome = true := fun j hj => by
    rw [hW1, World.cell?_alloc_at (w := w.drew) ROW _ w.heap.size j rfl, Array.getElem?_eq_getElem (by omega)]; rfl
  have hNf : ∀ j, W1.frozen? ⟨w.heap.size, j, none⟩ = false := fun j => by rw [hW1]; exact World.frozen?_alloc_at (w := w.drew) ROW _ w.heap.size j rfl
  have hOb : ∀ j v, w.cell? ⟨b, j, none⟩ = some v → W1.cell? ⟨b, j, none⟩ = some v := fun j v h => by rw [hW1, World.cell?_alloc_past (w := w.drew) _ b j hbw]; exact h
  have hOv : ∀ j v, news[j]? = some v → W1.cell? ⟨gv, j, none⟩ = some v := fun j v h => by
    rw [hW1, World.cell?_alloc_past (w := w.drew) _ gv j hvw]; exact (row_cell hgv j).trans (by simpa using h)
  have hcpA : ∀ (W : World), (∀ x, W.cell? x = W1.cell? x) → (∀ x, W.frozen? x = W1.frozen? x) → ∀ ty dc, (Builtin.copy_ #[51, 51] ty #[.slice (some ⟨w.heap.size, i * 3, none⟩) (n + 1 - i) dc, .slice (some ⟨gv, 0, none⟩) 1 1]).run Try.prog W = .ok (goInt 1) (W.setCells w.heap.size (i * 3) news) := fun W hWc hWf ty dc =>
    run_copyK W _ _ ty 55 3 w.heap.size (i * 3) (n + 1 - i) dc ⟨gv, 0, none⟩ 1 1 1 news Try.underlying51 hsi (by simp only [Nat.min_def]; split <;> omega) (by rw [hnl])
      (fun j v hj => by rw [addr_add, hWc, Nat.zero_add]; exact hOv j v hj)
      (fun j hj => by rw [hWc]; exact hN _ (by omega)) (fun j hj => by rw [hWf]; exact hNf _) h2
  have hGn : n + 1 ≤ G := by rw [hG]; exact grownCap_ge w _ _ _
  have hG63 : G ≤ 9223372036854775807 := by
    have := grownCap_le_maxLen w (n + 1) c 55 (by unfold maxLen; omega)
    rw [← hG] at this
    unfold maxLen at this
    omega
  have hGi : ¬ (G = i) := by omega
  have hGim : ¬ (G = i + 1) := by omega
  have hci : ¬ (c = i) := by omega
  have hbN : b ≠ w.heap.size := by omega
  have hcpB : ∀ (W : World), (∀ x, W.cell? x = (W1.setCells w.heap.size (i * 3) news).cell? x) → (∀ x, W.frozen? x = (W1.setCells w.heap.size (i * 3) news).frozen? x) → ∀ ty dc sc, (Builtin.copy_ #[51, 51] ty #[.slice (some ⟨w.heap.size, (i + 1) * 3, none⟩) (n - i) dc, .slice (some ⟨b, i * 3, none⟩) (n - i) sc]).run Try.prog W = .ok (goInt (n - i : Nat)) (W.setCells w.heap.size ((i + 1) * 3) (xs.drop (i * 3))) := fun W hWc hWf ty dc sc =>
    run_copyK W _ _ ty 55 3 w.heap.size ((i + 1) * 3) (n - i) dc ⟨b, i * 3, none⟩ (n - i) sc (n - i) (xs.drop (i * 3)) Try.underlying51 hsi (by simp only [Nat.min_def]; split <;> omega) hdl
      (fun j v hj => by
        rw [addr_add, hWc, World.cell?_setCells_out _ _ _ _ _ (fun h _ => absurd h hbN)]
        exact hOb _ v (hcellx (i * 3 + j) v (by rwa [List.getElem?_drop] at hj)))
      (fun j hj => by rw [hWc]; exact isSome_setCells _ _ _ _ (fun t ht => hN _ (by omega)) _ (hN _ (by omega)))
      (fun j hj => by rw [hWf, World.frozen?_setCells]; exact hNf _) (fun v hv => h1 v (List.mem_of_mem_drop hv))
  subst hW1
  have hE1 : ∀ x, ((w.alloc (.cells ROW 55)).drew).cell? x = (w.drew.alloc (.cells ROW 55)).cell? x := fun x => rfl
  have hE2 : ∀ x, ((w.alloc (.cells ROW 55)).drew).frozen? x = (w.drew.alloc (.cells ROW 55)).frozen? x := fun x => rfl
  have hF1 : ∀ x, (((w.alloc (.cells ROW 55)).drew.setCells w.heap.size (i * 3) news).drew).cell? x = ((w.drew.alloc (.cells ROW 55)).setCells w.heap.size (i * 3) news).cell? x := fun x => rfl
  have hF2 : ∀ x, (((w.alloc (.cells ROW 55)).drew.setCells w.heap.size (i * 3) news).drew).frozen? x = ((w.drew.alloc (.cells ROW 55)).setCells w.heap.size (i * 3) news).frozen? x := fun x => rfl
  have hw1 : IntKind.i64.wrap ((i : Int) + 1) = (i : Int) + 1 := (Go.IntWalk.i64_left _).trans (Go.IntWalk.wrap64_in _ (by omega))
  have hw2 : IntKind.i64.wrap ((n : Int) + 1 - (i : Int)) = (n : Int) + 1 - (i : Int) := (Go.IntWalk.i64_left _).trans (Go.IntWalk.wrap64_in _ (by omega))
  have hb1 : (0 : Int) ≤ (i : Int) + 1 := by omega
  have hin : i ≤ n := by omega
  have hb2 : (i : Int) + 1 ≤ (n : Int) + 1 := by omega
  have hb3 : (i : Int) ≤ (n : Int) := by omega
  have htn : ((i : Int) + 1).toNat = i + 1 := by omega
  have mixed : Try.prog.follows Departure.mixedOrders = true := by kernel_rfl
  clear hkk hik hold hROW hG hRl hown hrow hgv hcellx hOb hOv
  go_enter Try.func47, Try.ntmps47
  go_wp2_with (first
    | (at_builtin; refine Lib.wpList_append_run _ rfl _ _ _ _ rfl _ _ rfl rfl _ _ (hrz _) ?_)
    | (at_builtin; refine wpList_copy_runI _ rfl _ _ 51 51 rfl _ _ rfl rfl (hcpA _ hE1 hE2 _ _) ?_)
    | (at_builtin; refine wpList_copy_runI _ rfl _ _ 51 51 rfl _ _ rfl rfl (hcpB _ (fun _ => rfl) (fun _ => rfl) _ _ _) ?_)
    | fail)
  go_region_law_o (refine step_copy_runI rfl _ _ 51 51 rfl (.slice (some ⟨w.heap.size, (i + 1) * 3, none⟩) (n - i) (G - (i + 1))) (.slice (some ⟨b, i * 3, none⟩) (n - i) (c - i)) (by simp [Act.eval, Act.put]) (by simp [Act.eval, Act.put]) (hcpB _ hF1 hF2 3 (G - (i + 1)) (c - i)) ?_)
  go_wp2
  go_ret
  exact ⟨rfl, rfl⟩

theorem grown_newM {w W W' : World} {r : Option Nat} {N : Nat} (h : w.grownBy W r) (k : W.grownBy W' (some N)) (hN : w.heap.size ≤ N) : w.grownBy W' r :=
  ⟨k.os.trans h.os, k.tape.trans h.tape, k.output.trans h.output, Nat.le_trans h.size k.size, fun i hi hne => (k.block i (Nat.lt_of_lt_of_le hi h.size) (fun e => by have := Option.some.inj e; omega)).trans (h.block i hi hne)⟩

theorem own_form9M {w : World} {B e k n : Nat} {v : Value} {xs : List Value} (h : w.ownsRow B e k v n xs) (hn : 0 < n) : ∃ g cap, v = .slice (some ⟨g, 0, none⟩) n cap := by
  rcases h.2 with ⟨_, h0⟩ | ⟨g, cap, _, rfl, _⟩
  · omega
  · exact ⟨g, cap, rfl⟩
/-- At whatever place. -/
theorem insM_any (n i : Nat) (hi : i ≤ n) : InsM n i := by
  by_cases he : i = n
  · subst he; exact insM_end i
  · intro B v xs news w gv hown hnl hgv hne h1 hB hn
    obtain ⟨b, c, rfl⟩ := own_form9M hown (by omega)
    have h2 : ∀ u ∈ xs, u.oneCell' = true := fun u hu => h1 u (List.mem_append_left _ hu)
    have h3 : ∀ u ∈ news, u.oneCell' = true := fun u hu => h1 u (List.mem_append_right _ hu)
    have hnb : gv ≠ b := fun e => hne (by rw [e]; rfl)
    have hsz := own_size hown
    by_cases hroom : n + 1 ≤ c
    · refine (insM_shift B b n c i gv xs news w hown (by omega) hroom hnl hgv hnb h2 h3 hn).mono ?_
      rintro e w' ⟨rfl, rfl⟩
      have hm := own_mid Try.prog (i := i) hown.drew (by omega) hnl hroom h2 h3
      exact ⟨_, rfl, hm.1, grownBy_drew hm.2, .inl rfl⟩
    · refine (insM_grow B b n c i gv xs news w hown (by omega) (by omega) hnl hgv h2 h3 hn).mono ?_
      rintro e w' ⟨rfl, rfl⟩
      have hxl := hown.1
      obtain ⟨G, hG⟩ : ∃ G, G = grownCap w (n + 1) c 55 := ⟨_, rfl⟩
      have hGn : n + 1 ≤ G := by rw [hG]; exact grownCap_ge w _ _ _
      have hGm : G ≤ maxLen := by rw [hG]; exact grownCap_le_maxLen w (n + 1) c 55 (by unfold maxLen; omega)
      rw [← hG]
      obtain ⟨ROW, hROW⟩ : ∃ ROW : Array Value, ROW = (xs.take (i * 3)).toArray ++ Builtin.zeroCells (Value.cells (.agg #[.string ⟨#[]⟩, .int .i64 0, .slice none 0 0])) (n + 1 - i) ++ Builtin.zeroCells (Value.cells (.agg #[.string ⟨#[]⟩, .int .i64 0, .slice none 0 0])) (G - (n + 1)) := ⟨_, rfl⟩
      rw [← hROW]
      have hRs : ROW.size = G * 3 := by
        rw [hROW]
        simp [Builtin.zeroCells, Value.cells, hxl]
        omega
      have htl : (xs.take (i * 3)).length = i * 3 := by rw [List.length_take, hxl]; omega
      have hp : (w.alloc (.cells ROW 55)).ownsRow B 55 3 (.slice (some ⟨w.heap.size, 0, none⟩) i G) i (xs.take (i * 3)) :=
        ⟨htl, .inr ⟨w.heap.size, G, ROW, rfl, hB, heap_alloc_new w _, by omega, hGm, hRs, by
          rw [hROW]
          simp only [Array.toList_append, List.append_assoc]
          rw [List.take_append_of_le_length (by rw [htl]; exact Nat.le_refl _), List.take_of_length_le (by rw [htl]; exact Nat.le_refl _)]⟩⟩
      have q1 := own_lay Try.prog (m := 1) hp.drew (by rw [hnl]) (by omega) h3
      have hdl : (xs.drop (i * 3)).length = (n - i) * 3 := by rw [List.length_drop, hxl]; omega
      have hcc : i + 1 + (n - i) ≤ G := by omega
      have q2 := own_lay Try.prog (m := n - i) q1.1.drew hdl hcc (fun u hu => h2 u (List.mem_of_mem_drop hu))
      have e1 : i + 1 + (n - i) = n + 1 := by omega
      rw [e1] at q2
      refine ⟨_, rfl, q2.1, ?_, .inr ⟨_, rfl, Nat.le_refl _⟩⟩
      have g1 := World.grownBy_alloc w (.cells ROW 55) (some b)
      have g2 := grown_newM g1 (grownBy_drew q1.2) (Nat.le_refl _)
      exact grown_newM g2 (grownBy_drew q2.2) (Nat.le_refl _)

end Go.Proofs.Ytkpdhpbnbpjceaa
