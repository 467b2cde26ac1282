/- slices.Insert of one cell: at the end, in place, in a new block. -/
import Derived.Test.YtnileonlabpbpaaDel
import Derived.Lib.AppendZerosOnto
import Derived.Lib.Overlaps
import Derived.Laws.Externs
namespace Go.Proofs.Ytnileonlabpbpaa
open Go.RowKit
set_option linter.unusedVariables false
set_option maxRecDepth 20000

/-- copy of elements of k cells into a block that is known whole -/
theorem run_copy_k {P : Program} (w : World) (dT sT ty elem : TypeId) (k g o dLen dCap : Nat) (a : Addr) (sLen sCap : Nat) (cur : Array Value) (t : TypeId) (cs : List Value)
    (hu : P.underlying dT = some (.slice elem)) (hs : (P.info? elem).map (·.size) = some k)
    (hg : w.heap[g]? = some (.cells cur t (0, 0))) (hn : cs.length = Nat.min sLen dLen * k)
    (hsrc : ∀ j v, cs[j]? = some v → w.cell? (a.add j) = some v) (hfit : o + cs.length ≤ cur.size) (h1 : ∀ v ∈ cs, v.oneCell' = true) :
    (Builtin.copy_ #[dT, sT] ty #[.slice (some ⟨g, o, none⟩) dLen dCap, .slice (some a) sLen sCap]).run P w =
      .ok (goInt (Nat.min sLen dLen)) (w.setRow g (cur.toList.take o ++ cs ++ cur.toList.drop (o + cs.length)).toArray) := by
  have hl := run_loadCells_list (P := P) w a cs hsrc
  have hst := run_storeCells_at P g o t cs 0 cur w hg (by simpa using hfit) h1
  cases hq : P.info? elem with
  | none => simp [hq] at hs
  | some i =>
    have hi : i.size = k := by simpa [hq] using hs
    simp only [Nat.add_zero] at hst
    simp [Builtin.copy_, run_underlying hu, Builtin.lenOf, Builtin.firstCells, sizeOf, typeInfo, hq, hi, ← hn, hl, hst]

section
variable {P : Program} {w : World} {ops : Array Oper} {rest : List Oper} {o : Oper} {a : Act} {K : Act → World → Prop} {Q : Exit → Act → World → Prop} {E : Prop}
theorem wp_copy_at (d s : Operand) (t t' : TypeId) (ho : o.op = .call { callee := .builtin .copy, args := #[d, s], argTypes := #[t, t'] }) (v u : Value) (hd : a.eval d = v) (hs : a.eval s = u) {v' : Value} {w' : World}
    (hr : (Builtin.copy_ #[t, t'] o.type #[v, u]).run P w = .ok v' w') (h : K (a.put o.dst v') w') : o.wp P a w K Q := by
  unfold Oper.wp execOp
  simp only [ho, resolve, invoke, builtin, Sem.run_bind, Sem.run_pure, Result.andThen_ok, List.map_toArray, List.map_cons, List.map_nil, hd, hs, hr]
  exact h
theorem wpList_copy_at (hgd : o.guard = none) (d s : Operand) (t t' : TypeId) (ho : o.op = .call { callee := .builtin .copy, args := #[d, s], argTypes := #[t, t'] }) (v u : Value) (hd : a.eval d = v) (hs : a.eval s = u) {v' : Value} {w' : World}
    (hr : (Builtin.copy_ #[t, t'] o.type #[v, u]).run P w = .ok v' w') (h : wpList P ops Q rest (a.put o.dst v') w') : wpList P ops Q (o :: rest) a w :=
  wpList_plain hgd fun _ hK => wp_copy_at d s t t' ho v u hd hs hr (hK _ _ h)
theorem step_copy_at (hgd : o.guard = none) (d s : Operand) (t t' : TypeId) (ho : o.op = .call { callee := .builtin .copy, args := #[d, s], argTypes := #[t, t'] }) (v u : Value) (hd : a.eval d = v) (hs : a.eval s = u) {v' : Value} {w' : World}
    (hr : (Builtin.copy_ #[t, t'] o.type #[v, u]).run P w = .ok v' w') (h : K (a.put o.dst v') w') : if Region.wanted o (yielded ops a.tmps) = true then Oper.wp P o a w K Q else E := by
  rw [if_pos (by simp [Region.wanted, hgd])]
  exact wp_copy_at d s t t' ho v u hd hs hr h
end

theorem shape_of {w : World} {g : Nat} {cur : Array Value} {e : TypeId} (h : w.heap[g]? = some (.cells cur e (0, 0))) : w.shape? g = some (e, cur.size) := by
  simp [World.shape?, h]
theorem flatC_one (c : Cel) : flatC [c] = [.int .i64 c.1, .string c.2] := rfl
theorem flatC_append (a b : List Cel) : flatC (a ++ b) = flatC a ++ flatC b := by simp [flatC]
theorem flatC_cells (l : List Cel) : ∀ v ∈ flatC l, v.oneCell' = true := fun v hv => by
  simp only [flatC, List.mem_flatMap] at hv
  obtain ⟨c, _, hc⟩ := hv
  simp at hc
  rcases hc with rfl | rfl <;> rfl
theorem sizeC : (Try.prog.info? 85).map (·.size) = some 2 := by kernel_rfl

theorem insert_end (L : List Cel) (v : Value) (base : Nat) (c : Cel) (vb : Nat) (w : World) (hL : L.length ≤ 200) (hbase : base ≤ w.heap.size) (hown : w.ownsRow base 85 2 v L.length (flatC L))
    (hv : w.heap[vb]? = some (.cells #[.int .i64 c.1, .string c.2] 85 (0, 0))) :
    Calls Try.prog 58 #[v, .int .i64 L.length, .slice (some ⟨vb, 0, none⟩) 1 1] w fun e w' =>
      ∃ v', e = .returned v' ∧ w'.ownsRow base 85 2 v' (L.length + 1) (flatC (L ++ [c])) ∧ w.grownBy w' v.ownBlock := by
  have hcell : ∀ j u, [Value.int .i64 c.1, .string c.2][j]? = some u → w.cell? ((⟨vb, 0, none⟩ : Addr).add j) = some u := by
    intro j u hj
    rw [Go.WideShapes.add_plain, Nat.zero_add]
    match j, hj with
    | 0, hj => simp at hj; subst hj; simp [World.cell?, hv]
    | 1, hj => simp at hj; subst hj; simp [World.cell?, hv]
  obtain ⟨v', w', hrun, hown', hg, _, _⟩ := append_cell w base v L.length (flatC L) hown ⟨vb, 0, none⟩ (.int .i64 c.1) (.string c.2) hcell rfl rfl (by omega) hbase
  rw [← flatC_snoc] at hown'
  have hcase : (∃ g cap, v = .slice (some ⟨g, 0, none⟩) L.length cap) ∨ (v = .slice none 0 0 ∧ L.length = 0) := by
    rcases hown.2 with h | ⟨g, cap, cur, h, _⟩
    · exact .inr h
    · exact .inl ⟨g, cap, h⟩
  generalize hn : L.length = n at *
  rcases hcase with ⟨g, cap, rfl⟩ | ⟨rfl, rfl⟩
  · go_enter Try.func58, Try.ntmps58
    go_wp2_with (at_builtin; refine Lib.wpList_append_run _ rfl _ _ _ _ rfl _ _ rfl rfl _ _ hrun ?_)
    all_goals (
      go_ret
      exact ⟨v', rfl, hown', hg⟩)
  · go_enter Try.func58, Try.ntmps58
    go_wp2_with (at_builtin; refine Lib.wpList_append_run _ rfl _ _ _ _ rfl _ _ rfl rfl _ _ hrun ?_)
    all_goals (
      go_ret
      exact ⟨v', rfl, hown', hg⟩)

/-- the two copies of an insertion in place, as lists -/
theorem shifted (cur : List Value) (L : List Cel) (i : Nat) (c : Cel) (hi : i ≤ L.length) (hl : (L.length + 1) * 2 ≤ cur.length) (ht : cur.take (L.length * 2) = flatC L) :
    ∃ R, ((cur.take ((i + 1) * 2) ++ flatC (L.drop i) ++ cur.drop ((i + 1) * 2 + (flatC (L.drop i)).length)).take (i * 2) ++ [.int .i64 c.1, .string c.2] ++
      (cur.take ((i + 1) * 2) ++ flatC (L.drop i) ++ cur.drop ((i + 1) * 2 + (flatC (L.drop i)).length)).drop (i * 2 + 2)) = flatC (L.take i ++ c :: L.drop i) ++ R ∧ (flatC (L.take i ++ c :: L.drop i) ++ R).length = cur.length := by
  have h1 : cur.take (i * 2) = flatC (L.take i) := by
    rw [← flatC_take, ← ht, List.take_take]
    congr 1
    omega
  have hd : (flatC (L.drop i)).length = (L.length - i) * 2 := by rw [flatC_length, List.length_drop]
  have hlt : (cur.take ((i + 1) * 2)).length = (i + 1) * 2 := by rw [List.length_take]; omega
  have e1 : (cur.take ((i + 1) * 2) ++ flatC (L.drop i) ++ cur.drop ((i + 1) * 2 + (flatC (L.drop i)).length)).take (i * 2) = flatC (L.take i) := by
    rw [List.append_assoc, List.take_append_of_le_length (by omega), List.take_take, Nat.min_eq_left (by omega), h1]
  have e2 : (cur.take ((i + 1) * 2) ++ flatC (L.drop i) ++ cur.drop ((i + 1) * 2 + (flatC (L.drop i)).length)).drop (i * 2 + 2) = flatC (L.drop i) ++ cur.drop ((i + 1) * 2 + (flatC (L.drop i)).length) := by
    rw [List.append_assoc]
    exact List.drop_left' (by omega)
  have e3 : flatC (L.take i ++ c :: L.drop i) = flatC (L.take i) ++ ([.int .i64 c.1, .string c.2] ++ flatC (L.drop i)) := by
    rw [flatC_append]
    rfl
  refine ⟨cur.drop ((i + 1) * 2 + (flatC (L.drop i)).length), ?_, ?_⟩
  · rw [e1, e2, e3]
    simp only [List.append_assoc]
  · rw [e3]
    have : (flatC (L.take i)).length = i * 2 := by rw [flatC_length, List.length_take]; omega
    simp only [List.length_append, List.length_drop, hd, this, List.length_cons, List.length_nil]
    omega

set_option maxHeartbeats 1000000 in
theorem insert_in (L : List Cel) (g cap base i : Nat) (c : Cel) (vb : Nat) (w : World) (hL : L.length ≤ 200) (hi : i < L.length) (hroom : L.length + 1 ≤ cap) (hown : w.ownsRow base 85 2 (.slice (some ⟨g, 0, none⟩) L.length cap) L.length (flatC L))
    (hv : w.heap[vb]? = some (.cells #[.int .i64 c.1, .string c.2] 85 (0, 0))) (hne : vb ≠ g) :
    Calls Try.prog 58 #[.slice (some ⟨g, 0, none⟩) L.length cap, .int .i64 i, .slice (some ⟨vb, 0, none⟩) 1 1] w fun e w' =>
      e = .returned (.slice (some ⟨g, 0, none⟩) (L.length + 1) cap) ∧ w'.ownsRow base 85 2 (.slice (some ⟨g, 0, none⟩) (L.length + 1) cap) (L.length + 1) (flatC (L.take i ++ c :: L.drop i)) ∧ w.grownBy w' (some g) := by
  have hown0 := hown
  rcases hown.2 with ⟨h', _⟩ | ⟨g', cap', cur, h', hb, hg, hnc, hcm, hcs, htake⟩
  · simp at h'
  simp only [Value.slice.injEq, Option.some.injEq, Addr.mk.injEq, and_true, true_and] at h'
  obtain ⟨rfl, rfl⟩ := h'
  have hcl : cur.toList.length = cap * 2 := by simpa using hcs
  obtain ⟨R, hR, hRl⟩ := shifted cur.toList L i c (by omega) (by rw [hcl]; omega) htake
  have hsg : w.shape? g = some (85, cap * 2) := by rw [shape_of hg, hcs]
  have hsv : w.shape? vb = some (85, 2) := shape_of hv
  have hov : ∀ lb cb, (callFunc 70 #[.slice (some ⟨vb, 0, none⟩) 1 1, .slice (some ⟨g, (i + 1) * 2, none⟩) lb cb]).run Try.prog w = .ok (.value (.bool false)) w := fun lb cb => by
    obtain ⟨i0, hi0, hz0, hz1, hz2⟩ := info_parts Try.infoC
    rw [run_callFunc_extern Try.func70 (by kernel_rfl) (by kernel_rfl) (by kernel_rfl) (e := Extern.SlicesOverlaps.overlaps #[81, 81] #[4]) (by kernel_rfl),
      Lib.run_overlaps_apart w 81 4 85 Try.underlying81 2 (fun w => by simp [sizeOf, typeInfo, hi0, hz1]) ⟨vb, 0, none⟩ ⟨g, (i + 1) * 2, none⟩ 1 1 lb cb hne 85 85 2 (cap * 2) hsv hsg (by omega) (by simp [World.frozen?, hv]) (by simp [World.frozen?, hv])]
    rfl
  have hdl : (flatC (L.drop i)).length = (L.length - i) * 2 := by rw [flatC_length, List.length_drop]
  have hm1 : Nat.min (L.length + 1 - i) (L.length + 1 - (i + 1)) = L.length - i := by simp only [Nat.min_def]; split <;> omega
  have hc1 := run_copy_k (P := Try.prog) w.drew 81 81 3 85 2 g ((i + 1) * 2) (L.length + 1 - (i + 1)) (cap - (i + 1)) ⟨g, i * 2, none⟩ (L.length + 1 - i) (cap - i) cur 85 (flatC (L.drop i)) Try.underlying81 sizeC hg (by rw [hm1, hdl])
    (fun j u hj => by
      rw [Go.WideShapes.add_plain]
      have hjl := (List.getElem?_eq_some_iff.1 hj).1
      rw [hdl] at hjl
      rw [← flatC_drop, List.getElem?_drop] at hj
      exact (hown0.cellAt (i * 2 + j) (by omega)).trans hj)
    (by rw [hdl, hcs]; omega) (fun v hv => flatC_cells _ v hv)
  rw [hm1] at hc1
  obtain ⟨R1, hR1⟩ : ∃ R1, R1 = cur.toList.take ((i + 1) * 2) ++ flatC (L.drop i) ++ cur.toList.drop ((i + 1) * 2 + (flatC (L.drop i)).length) := ⟨_, rfl⟩
  rw [← hR1] at hc1 hR
  have hR1l : R1.length = cap * 2 := by
    rw [hR1]
    simp only [List.length_append, List.length_take, List.length_drop, Array.length_toList, hdl, hcs]
    omega
  have hg1 : (w.drew.setRow g R1.toArray).heap[g]? = some (.cells R1.toArray 85 (0, 0)) := setRow_heap w.drew g cur _ 85 _ hg
  have hv1 : (w.drew.setRow g R1.toArray).heap[vb]? = some (.cells #[.int .i64 c.1, .string c.2] 85 (0, 0)) := (setRow_other w.drew g vb _ hne).trans hv
  have hm2 : Nat.min 1 (L.length + 1 - i) = 1 := by simp only [Nat.min_def]; split <;> omega
  have hc2 := run_copy_k (P := Try.prog) (w.drew.setRow g R1.toArray) 81 81 3 85 2 g (i * 2) (L.length + 1 - i) (cap - i) ⟨vb, 0, none⟩ 1 1 R1.toArray 85 [.int .i64 c.1, .string c.2] Try.underlying81 sizeC hg1 (by rw [hm2]; rfl)
    (fun j u hj => by
      rw [Go.WideShapes.add_plain, Nat.zero_add]
      match j, hj with
      | 0, hj => simp at hj; subst hj; simp [World.cell?, hv1]
      | 1, hj => simp at hj; subst hj; simp [World.cell?, hv1])
    (by simp [hR1l]; omega) (by simp [Value.oneCell'])
  rw [hm2] at hc2
  have hfin : ((w.drew.setRow g R1.toArray).setRow g (R1.take (i * 2) ++ [Value.int .i64 c.1, Value.string c.2] ++ R1.drop (i * 2 + 2)).toArray).ownsRow base 85 2 (.slice (some ⟨g, 0, none⟩) (L.length + 1) cap) (L.length + 1) (flatC (L.take i ++ c :: L.drop i)) := by
    have hl : (flatC (L.take i ++ c :: L.drop i)).length = (L.length + 1) * 2 := by
      rw [flatC_length]
      simp only [List.length_append, List.length_take, List.length_cons, List.length_drop]
      omega
    refine ⟨hl, .inr ⟨g, cap, _, rfl, hb, setRow_heap _ g _ _ 85 _ hg1, hroom, hcm, ?_, ?_⟩⟩
    · rw [hR]
      simp only [List.size_toArray, hRl, Array.length_toList, hcs]
    · rw [hR]
      simp only
      rw [← hl]
      exact List.take_left
  have hgr : w.grownBy ((w.drew.setRow g R1.toArray).setRow g (R1.take (i * 2) ++ [Value.int .i64 c.1, Value.string c.2] ++ R1.drop (i * 2 + 2)).toArray) (some g) :=
    ((Upd.refl w g).drew.trans (Upd.setRow _ g _)).trans (Upd.setRow _ g _)
  simp only [List.length_cons, List.length_nil, Nat.zero_add, Nat.reduceAdd] at hc2
  generalize (R1.take (i * 2) ++ [Value.int .i64 c.1, Value.string c.2] ++ R1.drop (i * 2 + 2)).toArray = R2 at *
  have q1 : ¬ (i : Int) = L.length := by omega
  have q2 : ¬ (cap : Int) < L.length + 1 := by omega
  have q3 : (L.length : Int) + 1 ≤ cap := by omega
  have q4 : (i : Int) + 1 ≤ L.length + 1 := by omega
  have q5 : ((L.length : Int) + 1).toNat = L.length + 1 := by omega
  have q6 : ((i : Int) + 1).toNat = i + 1 := by omega
  have q7 : ¬ cap = i + 1 := by omega
  have q8 : ¬ cap = i := by omega
  have q9 : (i : Int) ≤ L.length + 1 := by omega
  have q10 : (i : Int) ≤ L.length := by omega
  have q11 : (0 : Int) ≤ (L.length : Int) + 1 := by omega
  have q12 : (0 : Int) ≤ (i : Int) + 1 := by omega
  have q13 : IntKind.i64.wrap ((i : Int) + 1) = (i : Int) + 1 := IntWalk.i64_in _ ⟨by omega, by omega⟩
  clear hR hR1 hR1l hRl hm1 hm2 hdl hsg hsv hown hown0 hg hg1 hv1 hv htake hcs
  generalize hn : L.length = n at *
  simp only [maxLen] at hcm
  go_enter Try.func58, Try.ntmps58
  go_wp2_with (simp only [hov])
  go_region_law (refine step_copy_at rfl _ _ 81 81 rfl (.slice (some ⟨g, (i + 1) * 2, none⟩) (n + 1 - (i + 1)) (cap - (i + 1))) (.slice (some ⟨g, i * 2, none⟩) (n + 1 - i) (cap - i)) (by simp [Act.eval, Act.put]) (by simp [Act.eval, Act.put]) hc1 ?_)
  go_wp2_with (at_builtin; refine wpList_copy_at rfl _ _ 81 81 rfl _ _ rfl rfl hc2 ?_)
  go_ret
  exact ⟨rfl, hfin, hgr⟩

/-- the two copies of an insertion into a new block, as lists -/
theorem regrown (X : List Value) (L : List Cel) (i : Nat) (c : Cel) (hi : i ≤ L.length) (hl : (L.length + 1) * 2 ≤ X.length) (ht : X.take (i * 2) = flatC (L.take i)) (Y : List Value) (hY : Y = X.take (i * 2) ++ [Value.int .i64 c.1, Value.string c.2] ++ X.drop (i * 2 + 2)) :
    ∃ R, Y.take ((i + 1) * 2) ++ flatC (L.drop i) ++ Y.drop ((i + 1) * 2 + (flatC (L.drop i)).length) = flatC (L.take i ++ c :: L.drop i) ++ R ∧ (flatC (L.take i ++ c :: L.drop i) ++ R).length = X.length ∧ Y.length = X.length := by
  have hti : (flatC (L.take i)).length = i * 2 := by rw [flatC_length, List.length_take]; omega
  have hd : (flatC (L.drop i)).length = (L.length - i) * 2 := by rw [flatC_length, List.length_drop]
  have e1 : Y.take ((i + 1) * 2) = flatC (L.take i) ++ [.int .i64 c.1, .string c.2] := by
    rw [hY, ht]
    exact List.take_left' (by simp [hti]; omega)
  have hYl : Y.length = X.length := by
    rw [hY, ht]
    simp only [List.length_append, hti, List.length_drop, List.length_cons, List.length_nil]
    omega
  have e3 : flatC (L.take i ++ c :: L.drop i) = flatC (L.take i) ++ [.int .i64 c.1, .string c.2] ++ flatC (L.drop i) := by
    rw [flatC_append]
    simp [flatC]
  refine ⟨Y.drop ((i + 1) * 2 + (flatC (L.drop i)).length), ?_, ?_, hYl⟩
  · rw [e1, e3]
  · rw [e3]
    simp only [List.length_append, List.length_drop, hd, hti, hYl, List.length_cons, List.length_nil]
    omega

set_option maxHeartbeats 1000000 in
theorem insert_new (L : List Cel) (g cap base i : Nat) (c : Cel) (vb : Nat) (w : World) (hL : L.length ≤ 200) (hi : i < L.length) (hroom : ¬ L.length + 1 ≤ cap) (hbase : base ≤ w.heap.size) (hown : w.ownsRow base 85 2 (.slice (some ⟨g, 0, none⟩) L.length cap) L.length (flatC L))
    (hv : w.heap[vb]? = some (.cells #[.int .i64 c.1, .string c.2] 85 (0, 0))) :
    Calls Try.prog 58 #[.slice (some ⟨g, 0, none⟩) L.length cap, .int .i64 i, .slice (some ⟨vb, 0, none⟩) 1 1] w fun e w' =>
      ∃ h G, e = .returned (.slice (some ⟨h, 0, none⟩) (L.length + 1) G) ∧ w'.ownsRow base 85 2 (.slice (some ⟨h, 0, none⟩) (L.length + 1) G) (L.length + 1) (flatC (L.take i ++ c :: L.drop i)) ∧ w.grownBy w' (some g) := by
  have hcap : cap = L.length := by
    rcases hown.2 with ⟨h', _⟩ | ⟨g', cap', cur, h', hb, hg, hnc, _⟩
    · simp at h'
    · simp only [Value.slice.injEq, Option.some.injEq, Addr.mk.injEq, and_true, true_and] at h'
      omega
  subst hcap
  have hcell := hown.cellAt
  obtain ⟨i0, hi0, hz0, hz1, hz2⟩ := info_parts Try.infoC
  have hold : (Builtin.firstCells i0.size i (.slice (some ⟨g, 0, none⟩) i L.length)).run Try.prog w.drew = .ok (flatC (L.take i)).toArray w.drew := by
    rw [hz1]
    exact run_firstCells_some w.drew 2 i ⟨g, 0, none⟩ i L.length (flatC (L.take i)) (by rw [flatC_length, List.length_take]; omega) (fun j u hj => by
      rw [Go.WideShapes.add_plain, Nat.zero_add]
      have hjl := (List.getElem?_eq_some_iff.1 hj).1
      rw [flatC_length, List.length_take] at hjl
      rw [← flatC_take, List.getElem?_take, if_pos (by omega)] at hj
      exact (hcell j (by omega)).trans hj)
  have hik : i + (L.length + 1 - i) = L.length + 1 := by omega
  have hap := Lib.run_append_grow_zeros w 81 3 81 85 i0 _ .i64 .i64 Try.underlying81 Try.underlying3 hi0 hz0 (some ⟨g, 0, none⟩) i L.length (flatC (L.take i)) hold (L.length + 1 - i) (by omega) (by omega) (by omega) (by omega) (by rw [hz2]; omega) (by
    rw [hz2, hik]
    exact growslice_fits (by omega) (by omega))
  rw [hik] at hap
  have hG1 : L.length + 1 ≤ grownCap w (L.length + 1) L.length 85 := grownCap_ge w _ _ _
  have hG2 : grownCap w (L.length + 1) L.length 85 ≤ 9223372036854775807 := by
    have := grownCap_le_maxLen w (L.length + 1) L.length 85 (by simp only [maxLen]; omega)
    simpa only [maxLen] using this
  generalize grownCap w (L.length + 1) L.length 85 = G at *
  obtain ⟨X, hX⟩ : ∃ X : Array Value, X = (flatC (L.take i)).toArray ++ Builtin.zeroCells (Value.agg #[.int .i64 0, .string ⟨#[]⟩]).cells (L.length + 1 - i) ++ Builtin.zeroCells (Value.agg #[.int .i64 0, .string ⟨#[]⟩]).cells (G - (L.length + 1)) := ⟨_, rfl⟩
  rw [← hX] at hap
  have hti : (flatC (L.take i)).length = i * 2 := by rw [flatC_length, List.length_take]; omega
  have hXs : X.size = G * 2 := by
    rw [hX]
    simp only [Array.size_append, List.size_toArray, hti, size_zeroCells, Value.cells]
    simp
    omega
  have hXt : X.toList.take (i * 2) = flatC (L.take i) := by
    rw [hX]
    simp only [Array.toList_append, List.append_assoc]
    exact List.take_left' hti
  clear hX hold
  have hXl : X.toList.length = G * 2 := by simpa using hXs
  obtain ⟨Y, hY⟩ : ∃ Y, Y = X.toList.take (i * 2) ++ [Value.int .i64 c.1, Value.string c.2] ++ X.toList.drop (i * 2 + 2) := ⟨_, rfl⟩
  obtain ⟨R, hR, hRl, hYl⟩ := regrown X.toList L i c (by omega) (by omega) hXt Y hY
  have hgl : g < w.heap.size := (hown.lt g rfl).2
  have hvl : vb < w.heap.size := (Array.getElem?_eq_some_iff.1 hv).1
  have hx1 : Ext w (w.drew.alloc (.cells X 85)) := ((Ext.refl w).drew).alloc _
  have hg1 : (w.drew.alloc (.cells X 85)).heap[w.heap.size]? = some (.cells X 85 (0, 0)) := heap_alloc_new w.drew _
  have hv1 := hx1.heap hv
  have hown1 := ownsRow_ext hown hx1
  generalize w.drew.alloc (.cells X 85) = W1 at *
  have hm1 : Nat.min 1 (L.length + 1 - i) = 1 := by simp only [Nat.min_def]; split <;> omega
  have hc1 := run_copy_k (P := Try.prog) W1 81 81 3 85 2 w.heap.size (i * 2) (L.length + 1 - i) (G - i) ⟨vb, 0, none⟩ 1 1 X 85 [.int .i64 c.1, .string c.2] Try.underlying81 sizeC hg1 (by rw [hm1]; rfl)
    (fun j u hj => by
      rw [Go.WideShapes.add_plain, Nat.zero_add]
      match j, hj with
      | 0, hj => simp at hj; subst hj; simp [World.cell?, hv1]
      | 1, hj => simp at hj; subst hj; simp [World.cell?, hv1])
    (by simp [hXs]; omega) (by simp [Value.oneCell'])
  simp only [hm1, List.length_cons, List.length_nil, Nat.zero_add, Nat.reduceAdd] at hc1
  rw [← hY] at hc1
  have hu2 : Upd W1 w.heap.size (W1.setRow w.heap.size Y.toArray) := Upd.setRow _ _ _
  have hg2 : (W1.setRow w.heap.size Y.toArray).drew.heap[w.heap.size]? = some (.cells Y.toArray 85 (0, 0)) := setRow_heap W1 w.heap.size X _ 85 _ hg1
  have hx2 : Ext w (W1.setRow w.heap.size Y.toArray) := Upd.ext hx1 hu2 (Nat.le_refl _)
  have hown2 := ownsRow_ext hown hx2.drew
  generalize W1.setRow w.heap.size Y.toArray = W2 at *
  have hm2 : Nat.min (L.length - i) (L.length + 1 - (i + 1)) = L.length - i := by simp only [Nat.min_def]; split <;> omega
  have hdl : (flatC (L.drop i)).length = (L.length - i) * 2 := by rw [flatC_length, List.length_drop]
  have hc2 := run_copy_k (P := Try.prog) W2.drew 81 81 3 85 2 w.heap.size ((i + 1) * 2) (L.length + 1 - (i + 1)) (G - (i + 1)) ⟨g, i * 2, none⟩ (L.length - i) (L.length - i) Y.toArray 85 (flatC (L.drop i)) Try.underlying81 sizeC hg2 (by rw [hm2, hdl])
    (fun j u hj => by
      rw [Go.WideShapes.add_plain]
      have hjl := (List.getElem?_eq_some_iff.1 hj).1
      rw [hdl] at hjl
      rw [← flatC_drop, List.getElem?_drop] at hj
      exact (hown2.cellAt (i * 2 + j) (by omega)).trans hj)
    (by simp only [List.size_toArray, hYl, hXl, hdl]; omega) (fun v hv => flatC_cells _ v hv)
  simp only [hm2] at hc2
  rw [hR] at hc2
  have hfin : (W2.drew.setRow w.heap.size (flatC (L.take i ++ c :: L.drop i) ++ R).toArray).ownsRow base 85 2 (.slice (some ⟨w.heap.size, 0, none⟩) (L.length + 1) G) (L.length + 1) (flatC (L.take i ++ c :: L.drop i)) := by
    have hl : (flatC (L.take i ++ c :: L.drop i)).length = (L.length + 1) * 2 := by
      rw [flatC_length]
      simp only [List.length_append, List.length_take, List.length_cons, List.length_drop]
      omega
    refine ⟨hl, .inr ⟨w.heap.size, G, _, rfl, hbase, setRow_heap _ _ _ _ 85 _ hg2, hG1, by simpa only [maxLen] using hG2, ?_, ?_⟩⟩
    · simp only [List.size_toArray, hRl, hXl]
    · simp only
      rw [← hl]
      exact List.take_left
  have hgr : w.grownBy (W2.drew.setRow w.heap.size (flatC (L.take i ++ c :: L.drop i) ++ R).toArray) (some g) :=
    Upd.of_ext (Upd.ext hx2.drew (Upd.setRow _ _ _) (Nat.le_refl _)) g
  generalize (flatC (L.take i ++ c :: L.drop i) ++ R).toArray = R2 at *
  have q1 : ¬ (i : Int) = L.length := by omega
  have q3 : (L.length : Int) < L.length + 1 := by omega
  have q4 : (i : Int) + 1 ≤ L.length + 1 := by omega
  have q5 : ((L.length : Int) + 1).toNat = L.length + 1 := by omega
  have q6 : ((i : Int) + 1).toNat = i + 1 := by omega
  have q7 : ¬ G = i + 1 := by omega
  have q8 : ¬ G = i := by omega
  have q9 : (i : Int) ≤ L.length + 1 := by omega
  have q10 : (i : Int) ≤ L.length := by omega
  have q11 : (0 : Int) ≤ (L.length : Int) + 1 := by omega
  have q12 : (0 : Int) ≤ (i : Int) + 1 := by omega
  have q14 : ¬ L.length = i := by omega
  have hkk : (L.length : Int) + 1 - (i : Int) = ((L.length + 1 - i : Nat) : Int) := by omega
  rw [← hkk] at hap
  have q13 : IntKind.i64.wrap ((i : Int) + 1) = (i : Int) + 1 := IntWalk.i64_in _ ⟨by omega, by omega⟩
  clear hR hY hXs hXt hXl hYl hRl hm1 hm2 hdl hown hown1 hown2 hg1 hg2 hv1 hv hx1 hx2 hu2 hkk hik hti hcell hgl hvl hbase hroom
  generalize hn : L.length = n at *
  go_enter Try.func58, Try.ntmps58
  go_wp2_with (first
    | (at_builtin; refine Lib.wpList_append_run _ rfl _ _ _ _ rfl _ _ rfl rfl _ _ hap ?_)
    | (at_builtin; refine wpList_copy_at rfl _ _ 81 81 rfl _ _ rfl rfl hc1 ?_))
  go_region_law (refine step_copy_at rfl _ _ 81 81 rfl (.slice (some ⟨w.heap.size, (i + 1) * 2, none⟩) (n + 1 - (i + 1)) (G - (i + 1))) (.slice (some ⟨g, i * 2, none⟩) (n - i) (n - i)) (by simp [Act.eval, Act.put]) (by simp [Act.eval, Act.put]) hc2 ?_)
  go_wp2
  go_ret
  exact ⟨_, _, rfl, hfin, hgr⟩
end Go.Proofs.Ytnileonlabpbpaa
