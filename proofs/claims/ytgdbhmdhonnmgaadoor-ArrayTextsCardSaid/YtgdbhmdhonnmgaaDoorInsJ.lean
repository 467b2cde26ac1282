/- slices.Insert of one element and slices.Delete of one, at elements of one cell: 22. -/
import Derived.Test.YtgdbhmdhonnmgaaDoorOne
namespace Go.Proofs.YtgdbhmdhonnmgaaDoor
open Go.RowKit
set_option linter.unusedVariables false
set_option maxRecDepth 20000
set_option maxRecDepth 20000

theorem infoJ : (Tryd.prog.info? 31).map (fun i => (i.zero, i.size, i.bytes)) = some (some (.slice none 0 0), 1, 24) := by kernel_rfl
theorem sizeJ : (Tryd.prog.info? 31).map (·.size) = some 1 := by kernel_rfl
theorem appendJ (w : World) (base : Nat) (v : Value) (n : Nat) (xs : List Value) (hown : w.ownsRow base 31 1 v n xs) (a : Addr) (x : Value) (hx : w.cell? a = some x)
    (h1 : x.oneCell' = true) (hn : n ≤ 100000) (hbase : base ≤ w.heap.size) (hspot : a.spot = none) :
    ∃ v' w', (Builtin.append_ #[22, 22] 22 #[v, .slice (some a) 1 1]).run Tryd.prog w = .ok v' w' ∧ w'.ownsRow base 31 1 v' (n + 1) (xs ++ [x]) ∧ w.grownBy w' v.ownBlock ∧
      (v'.ownBlock = v.ownBlock ∨ v'.ownBlock = some w.heap.size) := by
  obtain ⟨i0, hi, hz0, hz1, hz2⟩ := info_parts infoJ
  obtain ⟨v', w', r1, r2, r3, _, r5⟩ := run_append_own_at (P := Tryd.prog) w base 22 22 31 i0 _ 1 24 Tryd.underlying22 hi hz0 hz1 hz2 rfl (by decide) v n xs hown a 1 1 [x] rfl (cell_one a x hx hspot) (by simp [h1]) (by simp only [maxLen]; omega) (by omega) hbase
  exact ⟨v', w', r1, r2, r3, r5⟩

theorem insertEndJ (L : List Value) (v : Value) (base : Nat) (c : Value) (vb : Nat) (w : World) (hL : L.length ≤ 100000) (hc : c.oneCell' = true) (hbase : base ≤ w.heap.size) (hown : w.ownsRow base 31 1 v L.length L)
    (hv : w.heap[vb]? = some (.cells #[c] 31 (0, 0))) :
    Calls Tryd.prog 44 #[v, .int .i64 L.length, .slice (some ⟨vb, 0, none⟩) 1 1] w fun e w' =>
      ∃ v', e = .returned v' ∧ w'.ownsRow base 31 1 v' (L.length + 1) (L ++ [c]) ∧ w.grownBy w' v.ownBlock ∧ (v'.ownBlock = v.ownBlock ∨ v'.ownBlock = some w.heap.size) := by
  obtain ⟨v', w', hrun, hown', hg, hb⟩ := appendJ w base v L.length L hown ⟨vb, 0, none⟩ c (one_at hv) hc hL hbase rfl
  have hcase : (∃ g cap, v = .slice (some ⟨g, 0, none⟩) L.length cap) ∨ (v = .slice none 0 0 ∧ L.length = 0) := by
    rcases hown.2 with h | ⟨g, cap, cur, h, _⟩
    · exact .inr h
    · exact .inl ⟨g, cap, h⟩
  generalize hn : L.length = n at *
  rcases hcase with ⟨g, cap, rfl⟩ | ⟨rfl, rfl⟩
  · go_enter Tryd.func44, Tryd.ntmps44
    go_wp2_with (at_builtin; refine Lib.wpList_append_run _ rfl _ _ _ _ rfl _ _ rfl rfl _ _ hrun ?_)
    all_goals (
      go_ret
      exact ⟨v', rfl, hown', hg, hb⟩)
  · go_enter Tryd.func44, Tryd.ntmps44
    go_wp2_with (at_builtin; refine Lib.wpList_append_run _ rfl _ _ _ _ rfl _ _ rfl rfl _ _ hrun ?_)
    all_goals (
      go_ret
      exact ⟨v', rfl, hown', hg, hb⟩)

set_option maxHeartbeats 1000000 in
theorem insertInJ (L : List Value) (g cap base i : Nat) (c : Value) (vb : Nat) (w : World) (hL : L.length ≤ 100000) (hL1 : ∀ v ∈ L, v.oneCell' = true) (hc : c.oneCell' = true) (hi : i < L.length) (hroom : L.length + 1 ≤ cap) (hown : w.ownsRow base 31 1 (.slice (some ⟨g, 0, none⟩) L.length cap) L.length L)
    (hv : w.heap[vb]? = some (.cells #[c] 31 (0, 0))) (hne : vb ≠ g) :
    Calls Tryd.prog 44 #[.slice (some ⟨g, 0, none⟩) L.length cap, .int .i64 i, .slice (some ⟨vb, 0, none⟩) 1 1] w fun e w' =>
      e = .returned (.slice (some ⟨g, 0, none⟩) (L.length + 1) cap) ∧ w'.ownsRow base 31 1 (.slice (some ⟨g, 0, none⟩) (L.length + 1) cap) (L.length + 1) (L.take i ++ c :: L.drop i) ∧ w.grownBy w' (some g) := by
  have hown0 := hown
  rcases hown.2 with ⟨h', _⟩ | ⟨g', cap', cur, h', hb, hg, hnc, hcm, hcs, htake⟩
  · simp at h'
  simp only [Value.slice.injEq, Option.some.injEq, Addr.mk.injEq, and_true, true_and] at h'
  obtain ⟨rfl, rfl⟩ := h'
  rw [Nat.mul_one] at hcs htake
  have hcl : cur.toList.length = cap := by simpa using hcs
  obtain ⟨R, hR, hRl⟩ := shifted1 cur.toList L i c (by omega) (by rw [hcl]; omega) htake
  have hsg : w.shape? g = some (31, cap) := by rw [shape_of hg, hcs]
  have hsv : w.shape? vb = some (31, 1) := shape_of hv
  have hov : ∀ lb cb, (callFunc 64 #[.slice (some ⟨vb, 0, none⟩) 1 1, .slice (some ⟨g, i + 1, none⟩) lb cb]).run Tryd.prog w = .ok (.value (.bool false)) w := fun lb cb => by
    obtain ⟨i0, hi0, hz0, hz1, hz2⟩ := info_parts infoJ
    rw [run_callFunc_extern Tryd.func64 (by kernel_rfl) (by kernel_rfl) (by kernel_rfl) (e := Extern.SlicesOverlaps.overlaps #[22, 22] #[4]) (by kernel_rfl),
      Lib.run_overlaps_apart w 22 4 31 Tryd.underlying22 1 (fun w => by simp [sizeOf, typeInfo, hi0, hz1]) ⟨vb, 0, none⟩ ⟨g, i + 1, none⟩ 1 1 lb cb hne 31 31 1 cap hsv hsg (by omega) (by simp [World.frozen?, hv]) (by simp [World.frozen?, hv])]
    rfl
  have hdl : (L.drop i).length = L.length - i := List.length_drop
  have hm1 : Nat.min (L.length + 1 - i) (L.length + 1 - (i + 1)) = L.length - i := by simp only [Nat.min_def]; split <;> omega
  have hc1 := run_copy_k (P := Tryd.prog) w.drew 22 22 3 31 1 g (i + 1) (L.length + 1 - (i + 1)) (cap - (i + 1)) ⟨g, i, none⟩ (L.length + 1 - i) (cap - i) cur 31 (L.drop i) Tryd.underlying22 sizeJ hg (by rw [hm1, hdl]; omega)
    (fun j u hj => by
      rw [Go.WideShapes.add_plain]
      have hjl := (List.getElem?_eq_some_iff.1 hj).1
      rw [hdl] at hjl
      rw [List.getElem?_drop] at hj
      exact (hown0.cellAt (i + j) (by omega)).trans hj)
    (by rw [hdl, hcs]; omega) (fun v hv => hL1 v (List.mem_of_mem_drop hv))
  rw [hm1] at hc1
  obtain ⟨R1, hR1⟩ : ∃ R1, R1 = cur.toList.take (i + 1) ++ L.drop i ++ cur.toList.drop (i + 1 + (L.drop i).length) := ⟨_, rfl⟩
  rw [← hR1] at hc1 hR
  have hR1l : R1.length = cap := by
    rw [hR1]
    simp only [List.length_append, List.length_take, List.length_drop, Array.length_toList, hcs]
    omega
  have hg1 : (w.drew.setRow g R1.toArray).heap[g]? = some (.cells R1.toArray 31 (0, 0)) := setRow_heap w.drew g cur _ 31 _ hg
  have hv1 : (w.drew.setRow g R1.toArray).heap[vb]? = some (.cells #[c] 31 (0, 0)) := (setRow_other w.drew g vb _ hne).trans hv
  have hm2 : Nat.min 1 (L.length + 1 - i) = 1 := by simp only [Nat.min_def]; split <;> omega
  have hc2 := run_copy_k (P := Tryd.prog) (w.drew.setRow g R1.toArray) 22 22 3 31 1 g i (L.length + 1 - i) (cap - i) ⟨vb, 0, none⟩ 1 1 R1.toArray 31 [c] Tryd.underlying22 sizeJ hg1 (by rw [hm2]; rfl)
    (cell_one _ c (one_at hv1) rfl) (by simp [hR1l]; omega) (by simp [hc])
  rw [hm2] at hc2
  have hfin : ((w.drew.setRow g R1.toArray).setRow g (R1.take i ++ [c] ++ R1.drop (i + 1)).toArray).ownsRow base 31 1 (.slice (some ⟨g, 0, none⟩) (L.length + 1) cap) (L.length + 1) (L.take i ++ c :: L.drop i) := by
    have hl : (L.take i ++ c :: L.drop i).length = L.length + 1 := by
      simp only [List.length_append, List.length_take, List.length_cons, List.length_drop]
      omega
    refine ⟨by rw [hl, Nat.mul_one], .inr ⟨g, cap, _, rfl, hb, setRow_heap _ g _ _ 31 _ hg1, hroom, hcm, ?_, ?_⟩⟩
    · rw [hR, Nat.mul_one]
      simp only [List.size_toArray, hRl, Array.length_toList, hcs]
    · rw [hR]
      simp only
      rw [Nat.mul_one, ← hl]
      exact List.take_left
  have hgr : w.grownBy ((w.drew.setRow g R1.toArray).setRow g (R1.take i ++ [c] ++ R1.drop (i + 1)).toArray) (some g) :=
    ((Upd.refl w g).drew.trans (Upd.setRow _ g _)).trans (Upd.setRow _ g _)
  simp only [List.length_cons, List.length_nil, Nat.zero_add] at hc2
  generalize (R1.take i ++ [c] ++ R1.drop (i + 1)).toArray = R2 at *
  have q1 : ¬ (i : Int) = L.length := by omega
  have q2 : ¬ (cap : Int) < L.length + 1 := by omega
  have q3 : (L.length : Int) + 1 ≤ cap := by omega
  have q4 : (i : Int) + 1 ≤ L.length + 1 := by omega
  have q5 : ((L.length : Int) + 1).toNat = L.length + 1 := by omega
  have q6 : ((i : Int) + 1).toNat = i + 1 := by omega
  have q7 : ¬ cap = i + 1 := by omega
  have q8 : ¬ cap = i := by omega
  have q9 : (i : Int) ≤ L.length + 1 := by omega
  have q10 : (i : Int) ≤ L.length := by omega
  have q11 : (0 : Int) ≤ (L.length : Int) + 1 := by omega
  have q12 : (0 : Int) ≤ (i : Int) + 1 := by omega
  have q13 : IntKind.i64.wrap ((i : Int) + 1) = (i : Int) + 1 := IntWalk.i64_in _ ⟨by omega, by omega⟩
  clear hR hR1 hR1l hRl hm1 hm2 hdl hsg hsv hown hown0 hg hg1 hv1 hv htake hcs
  generalize hn : L.length = n at *
  simp only [maxLen] at hcm
  go_enter Tryd.func44, Tryd.ntmps44
  go_wp2_with (simp only [hov])
  go_region_law (refine step_copy_at rfl _ _ 22 22 rfl (.slice (some ⟨g, i + 1, none⟩) (n + 1 - (i + 1)) (cap - (i + 1))) (.slice (some ⟨g, i, none⟩) (n + 1 - i) (cap - i)) (by simp [Act.eval, Act.put]) (by simp [Act.eval, Act.put]) hc1 ?_)
  go_wp2_with (at_builtin; refine wpList_copy_at rfl _ _ 22 22 rfl _ _ rfl rfl hc2 ?_)
  go_ret
  exact ⟨rfl, hfin, hgr⟩

set_option maxHeartbeats 1000000 in
theorem insertNewJ (L : List Value) (g cap base i : Nat) (c : Value) (vb : Nat) (w : World) (hL : L.length ≤ 100000) (hL1 : ∀ v ∈ L, v.oneCell' = true) (hc : c.oneCell' = true) (hi : i < L.length) (hroom : ¬ L.length + 1 ≤ cap) (hbase : base ≤ w.heap.size) (hown : w.ownsRow base 31 1 (.slice (some ⟨g, 0, none⟩) L.length cap) L.length L)
    (hv : w.heap[vb]? = some (.cells #[c] 31 (0, 0))) :
    Calls Tryd.prog 44 #[.slice (some ⟨g, 0, none⟩) L.length cap, .int .i64 i, .slice (some ⟨vb, 0, none⟩) 1 1] w fun e w' =>
      ∃ G, e = .returned (.slice (some ⟨w.heap.size, 0, none⟩) (L.length + 1) G) ∧ w'.ownsRow base 31 1 (.slice (some ⟨w.heap.size, 0, none⟩) (L.length + 1) G) (L.length + 1) (L.take i ++ c :: L.drop i) ∧ w.grownBy w' (some g) := by
  have hcap : cap = L.length := by
    rcases hown.2 with ⟨h', _⟩ | ⟨g', cap', cur, h', hb, hg, hnc, _⟩
    · simp at h'
    · simp only [Value.slice.injEq, Option.some.injEq, Addr.mk.injEq, and_true, true_and] at h'
      omega
  subst hcap
  have hcell := hown.cellAt
  obtain ⟨i0, hi0, hz0, hz1, hz2⟩ := info_parts infoJ
  have hti : (L.take i).length = i := by rw [List.length_take]; omega
  have hold : (Builtin.firstCells i0.size i (.slice (some ⟨g, 0, none⟩) i L.length)).run Tryd.prog w.drew = .ok (L.take i).toArray w.drew := by
    rw [hz1]
    exact run_firstCells_some w.drew 1 i ⟨g, 0, none⟩ i L.length (L.take i) (by omega) (fun j u hj => by
      rw [Go.WideShapes.add_plain, Nat.zero_add]
      have hjl := (List.getElem?_eq_some_iff.1 hj).1
      rw [hti] at hjl
      rw [List.getElem?_take, if_pos (by omega)] at hj
      exact (hcell j (by omega)).trans hj)
  have hik : i + (L.length + 1 - i) = L.length + 1 := by omega
  have hap := Lib.run_append_grow_zeros w 22 3 22 31 i0 _ .i64 .i64 Tryd.underlying22 Tryd.underlying3 hi0 hz0 (some ⟨g, 0, none⟩) i L.length (L.take i) hold (L.length + 1 - i) (by omega) (by omega) (by omega) (by omega) (by rw [hz2]; omega) (by
    rw [hz2, hik]
    exact growslice_fits (by omega) (by omega))
  rw [hik] at hap
  have hG1 : L.length + 1 ≤ grownCap w (L.length + 1) L.length 31 := grownCap_ge w _ _ _
  have hG2 : grownCap w (L.length + 1) L.length 31 ≤ 9223372036854775807 := by
    have := grownCap_le_maxLen w (L.length + 1) L.length 31 (by simp only [maxLen]; omega)
    simpa only [maxLen] using this
  generalize grownCap w (L.length + 1) L.length 31 = G at *
  obtain ⟨X, hX⟩ : ∃ X : Array Value, X = (L.take i).toArray ++ Builtin.zeroCells (Value.cells (.slice none 0 0)) (L.length + 1 - i) ++ Builtin.zeroCells (Value.cells (.slice none 0 0)) (G - (L.length + 1)) := ⟨_, rfl⟩
  rw [← hX] at hap
  have hXs : X.size = G := by
    rw [hX]
    simp only [Array.size_append, List.size_toArray, hti, size_zeroCells, Value.cells]
    simp
    omega
  have hXt : X.toList.take i = L.take i := by
    rw [hX]
    simp only [Array.toList_append, List.append_assoc]
    exact List.take_left' hti
  clear hX hold
  have hXl : X.toList.length = G := by simpa using hXs
  obtain ⟨Y, hY⟩ : ∃ Y, Y = X.toList.take i ++ [c] ++ X.toList.drop (i + 1) := ⟨_, rfl⟩
  obtain ⟨R, hR, hRl, hYl⟩ := regrown1 X.toList L i c (by omega) (by omega) hXt Y hY
  have hgl : g < w.heap.size := (hown.lt g rfl).2
  have hvl : vb < w.heap.size := (Array.getElem?_eq_some_iff.1 hv).1
  have hx1 : Ext w (w.drew.alloc (.cells X 31)) := ((Ext.refl w).drew).alloc _
  have hg1 : (w.drew.alloc (.cells X 31)).heap[w.heap.size]? = some (.cells X 31 (0, 0)) := heap_alloc_new w.drew _
  have hv1 := hx1.heap hv
  have hown1 := rowExt hown hx1
  generalize w.drew.alloc (.cells X 31) = W1 at *
  have hm1 : Nat.min 1 (L.length + 1 - i) = 1 := by simp only [Nat.min_def]; split <;> omega
  have hc1 := run_copy_k (P := Tryd.prog) W1 22 22 3 31 1 w.heap.size i (L.length + 1 - i) (G - i) ⟨vb, 0, none⟩ 1 1 X 31 [c] Tryd.underlying22 sizeJ hg1 (by rw [hm1]; rfl)
    (cell_one _ c (one_at hv1) rfl) (by simp [hXs]; omega) (by simp [hc])
  simp only [hm1, List.length_cons, List.length_nil, Nat.zero_add] at hc1
  rw [← hY] at hc1
  have hu2 : Upd W1 w.heap.size (W1.setRow w.heap.size Y.toArray) := Upd.setRow _ _ _
  have hg2 : (W1.setRow w.heap.size Y.toArray).drew.heap[w.heap.size]? = some (.cells Y.toArray 31 (0, 0)) := setRow_heap W1 w.heap.size X _ 31 _ hg1
  have hx2 : Ext w (W1.setRow w.heap.size Y.toArray) := Upd.ext hx1 hu2 (Nat.le_refl _)
  have hown2 := rowExt hown hx2.drew
  generalize W1.setRow w.heap.size Y.toArray = W2 at *
  have hm2 : Nat.min (L.length - i) (L.length + 1 - (i + 1)) = L.length - i := by simp only [Nat.min_def]; split <;> omega
  have hdl : (L.drop i).length = L.length - i := List.length_drop
  have hc2 := run_copy_k (P := Tryd.prog) W2.drew 22 22 3 31 1 w.heap.size (i + 1) (L.length + 1 - (i + 1)) (G - (i + 1)) ⟨g, i, none⟩ (L.length - i) (L.length - i) Y.toArray 31 (L.drop i) Tryd.underlying22 sizeJ hg2 (by rw [hm2, hdl]; omega)
    (fun j u hj => by
      rw [Go.WideShapes.add_plain]
      have hjl := (List.getElem?_eq_some_iff.1 hj).1
      rw [hdl] at hjl
      rw [List.getElem?_drop] at hj
      exact (hown2.cellAt (i + j) (by omega)).trans hj)
    (by simp only [List.size_toArray, hYl, hXl, hdl]; omega) (fun v hv => hL1 v (List.mem_of_mem_drop hv))
  simp only [hm2] at hc2
  rw [hR] at hc2
  have hfin : (W2.drew.setRow w.heap.size (L.take i ++ c :: L.drop i ++ R).toArray).ownsRow base 31 1 (.slice (some ⟨w.heap.size, 0, none⟩) (L.length + 1) G) (L.length + 1) (L.take i ++ c :: L.drop i) := by
    have hl : (L.take i ++ c :: L.drop i).length = L.length + 1 := by
      simp only [List.length_append, List.length_take, List.length_cons, List.length_drop]
      omega
    refine ⟨by rw [hl, Nat.mul_one], .inr ⟨w.heap.size, G, _, rfl, hbase, setRow_heap _ _ _ _ 31 _ hg2, hG1, by simpa only [maxLen] using hG2, ?_, ?_⟩⟩
    · simp only [List.size_toArray, hRl, hXl, Nat.mul_one]
    · simp only
      rw [Nat.mul_one, ← hl]
      exact List.take_left
  have hgr : w.grownBy (W2.drew.setRow w.heap.size (L.take i ++ c :: L.drop i ++ R).toArray) (some g) :=
    Upd.of_ext (Upd.ext hx2.drew (Upd.setRow _ _ _) (Nat.le_refl _)) g
  generalize (L.take i ++ c :: L.drop i ++ R).toArray = R2 at *
  have q1 : ¬ (i : Int) = L.length := by omega
  have q3 : (L.length : Int) < L.length + 1 := by omega
  have q4 : (i : Int) + 1 ≤ L.length + 1 := by omega
  have q5 : ((L.length : Int) + 1).toNat = L.length + 1 := by omega
  have q6 : ((i : Int) + 1).toNat = i + 1 := by omega
  have q7 : ¬ G = i + 1 := by omega
  have q8 : ¬ G = i := by omega
  have q9 : (i : Int) ≤ L.length + 1 := by omega
  have q10 : (i : Int) ≤ L.length := by omega
  have q11 : (0 : Int) ≤ (L.length : Int) + 1 := by omega
  have q12 : (0 : Int) ≤ (i : Int) + 1 := by omega
  have q14 : ¬ L.length = i := by omega
  have hkk : (L.length : Int) + 1 - (i : Int) = ((L.length + 1 - i : Nat) : Int) := by omega
  rw [← hkk] at hap
  have q13 : IntKind.i64.wrap ((i : Int) + 1) = (i : Int) + 1 := IntWalk.i64_in _ ⟨by omega, by omega⟩
  clear hR hY hXs hXt hXl hYl hRl hm1 hm2 hdl hown hown1 hown2 hg1 hg2 hv1 hv hx1 hx2 hu2 hkk hik hti hcell hgl hvl hbase hroom
  generalize hn : L.length = n at *
  go_enter Tryd.func44, Tryd.ntmps44
  go_wp2_with (first
    | (at_builtin; refine Lib.wpList_append_run _ rfl _ _ _ _ rfl _ _ rfl rfl _ _ hap ?_)
    | (at_builtin; refine wpList_copy_at rfl _ _ 22 22 rfl _ _ rfl rfl hc1 ?_))
  go_region_law (refine step_copy_at rfl _ _ 22 22 rfl (.slice (some ⟨w.heap.size, i + 1, none⟩) (n + 1 - (i + 1)) (G - (i + 1))) (.slice (some ⟨g, i, none⟩) (n - i) (n - i)) (by simp [Act.eval, Act.put]) (by simp [Act.eval, Act.put]) hc2 ?_)
  go_wp2
  go_ret
  exact ⟨_, rfl, hfin, hgr⟩

theorem insertJ (L : List Value) (v : Value) (base i : Nat) (c : Value) (vb : Nat) (w : World) (hL : L.length ≤ 100000) (hL1 : ∀ v ∈ L, v.oneCell' = true) (hc : c.oneCell' = true) (hi : i ≤ L.length) (hbase : base ≤ w.heap.size) (hown : w.ownsRow base 31 1 v L.length L)
    (hv : w.heap[vb]? = some (.cells #[c] 31 (0, 0))) (hne : v.ownBlock ≠ some vb) :
    Calls Tryd.prog 44 #[v, .int .i64 i, .slice (some ⟨vb, 0, none⟩) 1 1] w fun e w' =>
      ∃ v', e = .returned v' ∧ w'.ownsRow base 31 1 v' (L.length + 1) (L.take i ++ c :: L.drop i) ∧ w.grownBy w' v.ownBlock ∧ (v'.ownBlock = v.ownBlock ∨ v'.ownBlock = some w.heap.size) := by
  by_cases h : i = L.length
  · subst h
    rw [List.take_length, List.drop_length]
    exact insertEndJ L v base c vb w hL hc hbase hown hv
  · rcases hown.2 with ⟨_, h'⟩ | ⟨g, cap, cur, rfl, _⟩
    · omega
    · by_cases hroom : L.length + 1 ≤ cap
      · exact (insertInJ L g cap base i c vb w hL hL1 hc (by omega) hroom hown hv (fun e => hne (by rw [e]; rfl))).mono fun e w' ⟨h1, h2, h3⟩ => ⟨_, h1, h2, h3, .inl rfl⟩
      · exact (insertNewJ L g cap base i c vb w hL hL1 hc (by omega) hroom hbase hown hv).mono fun e w' ⟨G, h1, h2, h3⟩ => ⟨_, h1, h2, h3, .inr rfl⟩
end Go.Proofs.YtgdbhmdhonnmgaaDoor
