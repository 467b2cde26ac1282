/- LmC; LmD (merged by group.py) -/
import Derived.Test.YtaciedooeeklpaaDoorQ11
import Derived.Lib.AppendZerosOnto
import Derived.Lib.Overlaps
import Derived.Laws.Externs
import Derived.Test.YtaciedooeeklpaaDoorShelfB
import Derived.WalkSmall
import Derived.Maps.OwnIn
import Derived.Lib.SlKeysI
import Derived.Stop.RegionWithIn
import Derived.Sort.QuietIn
namespace Go.Proofs.YtaciedooeeklpaaDoor
section
open Go.RowKit
set_option linter.unusedVariables false
set_option linter.unusedSimpArgs false
set_option linter.unusedSectionVars false
set_option maxRecDepth 100000
attribute [local go_sem] Oper.semAt_some

/-- copy of elements of k cells into a block that is known whole -/
theorem run_copy_k {P : Program} (w : World) (dT sT ty elem : TypeId) (k g o dLen dCap : Nat) (a : Addr) (sLen sCap : Nat) (cur : Array Value) (t : TypeId) (cs : List Value)
    (hu : P.underlying dT = some (.slice elem)) (hs : (P.info? elem).map (·.size) = some k)
    (hg : w.heap[g]? = some (.cells cur t (0, 0))) (hn : cs.length = Nat.min sLen dLen * k)
    (hsrc : ∀ j v, cs[j]? = some v → w.cell? (a.add j) = some v) (hfit : o + cs.length ≤ cur.size) (h1 : ∀ v ∈ cs, v.oneCell' = true) :
    (Builtin.copy_ #[dT, sT] ty #[.slice (some ⟨g, o, none⟩) dLen dCap, .slice (some a) sLen sCap]).run P w =
      .ok (goInt (Nat.min sLen dLen)) (w.setRow g (cur.toList.take o ++ cs ++ cur.toList.drop (o + cs.length)).toArray) := by
  have hl := run_loadCells_list (P := P) w a cs hsrc
  have hst := run_storeCells_at P g o t cs 0 cur w hg (by simpa using hfit) h1
  cases hq : P.info? elem with
  | none => simp [hq] at hs
  | some i =>
    have hi : i.size = k := by simpa [hq] using hs
    simp only [Nat.add_zero] at hst
    simp [Builtin.copy_, run_underlying hu, Builtin.lenOf, Builtin.firstCells, sizeOf, typeInfo, hq, hi, ← hn, hl, hst]

section
variable {P : Program} {w : World} {ops : Array Oper} {rest : List Oper} {o : Oper} {a : Act} {K : Act → World → Prop} {Q : Exit → Act → World → Prop} {E : Prop}
theorem wp_copy_at (d s : Operand) (t t' : TypeId) (ho : o.op = .call { callee := .builtin .copy, args := #[d, s], argTypes := #[t, t'] }) (v u : Value) (hd : a.eval d = v) (hs : a.eval s = u) {v' : Value} {w' : World}
    (hr : (Builtin.copy_ #[t, t'] o.type #[v, u]).run P w = .ok v' w') (h : K (a.put o.dst v') w') : o.wp P a w K Q := by
  unfold Oper.wp execOp
  simp only [ho, resolve, invoke, builtin, Sem.run_bind, Sem.run_pure, Result.andThen_ok, List.map_toArray, List.map_cons, List.map_nil, hd, hs, hr]
  exact h
theorem wpList_copy_at (hgd : o.guard = none) (d s : Operand) (t t' : TypeId) (ho : o.op = .call { callee := .builtin .copy, args := #[d, s], argTypes := #[t, t'] }) (v u : Value) (hd : a.eval d = v) (hs : a.eval s = u) {v' : Value} {w' : World}
    (hr : (Builtin.copy_ #[t, t'] o.type #[v, u]).run P w = .ok v' w') (h : wpList P ops Q rest (a.put o.dst v') w') : wpList P ops Q (o :: rest) a w :=
  wpList_plain hgd fun _ hK => wp_copy_at d s t t' ho v u hd hs hr (hK _ _ h)
theorem step_copy_at (hgd : o.guard = none) (d s : Operand) (t t' : TypeId) (ho : o.op = .call { callee := .builtin .copy, args := #[d, s], argTypes := #[t, t'] }) (v u : Value) (hd : a.eval d = v) (hs : a.eval s = u) {v' : Value} {w' : World}
    (hr : (Builtin.copy_ #[t, t'] o.type #[v, u]).run P w = .ok v' w') (h : K (a.put o.dst v') w') : if Region.wanted o (yielded ops a.tmps) = true then Oper.wp P o a w K Q else E := by
  rw [if_pos (by simp [Region.wanted, hgd])]
  exact wp_copy_at d s t t' ho v u hd hs hr h
end

theorem shape_of {w : World} {g : Nat} {cur : Array Value} {e : TypeId} (h : w.heap[g]? = some (.cells cur e (0, 0))) : w.shape? g = some (e, cur.size) := by
  simp [World.shape?, h]
theorem sizeC : (Tryd.prog.info? 75).map (·.size) = some 4 := by kernel_rfl
theorem rq_at {w : World} {vb : Nat} {c : Rq} (hv : w.heap[vb]? = some (.cells (Rq.cells c).toArray 75 (0, 0))) : ∀ j u, (Rq.cells c)[j]? = some u → w.cell? ((⟨vb, 0, none⟩ : Addr).add j) = some u := fun j u hj => by
  rw [Go.WideShapes.add_plain, Nat.zero_add]
  unfold World.cell?
  simp only [hv]
  simpa using hj
theorem rq_sl {w : World} {vb : Nat} {c : Rq} (hv : w.heap[vb]? = some (.cells (Rq.cells c).toArray 75 (0, 0))) : SlG Rq.cells w (some ⟨vb, 0, none⟩) 1 [c] := by
  refine ⟨fun i x hi => ?_, by simp, by omega⟩
  cases i with
  | zero =>
    simp at hi
    subst hi
    refine ⟨vb, 0, rfl, fun j u hj => ?_⟩
    have := rq_at hv j u hj
    rw [Go.WideShapes.add_plain] at this
    simpa using this
  | succ i => simp at hi

theorem linsert_end (L : List Rq) (v : Value) (base : Nat) (c : Rq) (vb : Nat) (w : World) (hL : L.length ≤ 100000) (hbase : base ≤ w.heap.size) (hown : w.ownsRow base 75 4 v L.length (flatQ L))
    (hv : w.heap[vb]? = some (.cells (Rq.cells c).toArray 75 (0, 0))) :
    Calls Tryd.prog 41 #[v, .int .i64 L.length, .slice (some ⟨vb, 0, none⟩) 1 1] w fun e w' =>
      ∃ v', e = .returned v' ∧ w'.ownsRow base 75 4 v' (L.length + 1) (flatQ (L ++ [c])) ∧ w.grownBy w' v.ownBlock ∧ (v'.ownBlock = v.ownBlock ∨ v'.ownBlock = some w.heap.size) := by
  obtain ⟨v', w', hrun, hown', hg, _, hob⟩ := OwnG.append2 (l := L) (m := [c]) elemR 66 hown (rq_sl hv) (fun e => (by cases e)) (by simp; omega) (by simp; omega) hbase
  unfold OwnG at hown'
  simp only [List.length_append, List.length_cons, List.length_nil, Nat.zero_add] at hown' hrun
  have hcase : (∃ g cap, v = .slice (some ⟨g, 0, none⟩) L.length cap) ∨ (v = .slice none 0 0 ∧ L.length = 0) := by
    rcases hown.2 with h | ⟨g, cap, cur, h, _⟩
    · exact .inr h
    · exact .inl ⟨g, cap, h⟩
  generalize hn : L.length = n at *
  rcases hcase with ⟨g, cap, rfl⟩ | ⟨rfl, rfl⟩
  · go_enter Tryd.func41, Tryd.ntmps41
    go_wp2_with (at_builtin; refine Lib.wpList_append_run _ rfl _ _ _ _ rfl _ _ rfl rfl _ _ hrun ?_)
    all_goals (
      go_ret
      exact ⟨v', rfl, hown', hg, hob⟩)
  · go_enter Tryd.func41, Tryd.ntmps41
    go_wp2_with (at_builtin; refine Lib.wpList_append_run _ rfl _ _ _ _ rfl _ _ rfl rfl _ _ hrun ?_)
    all_goals (
      go_ret
      exact ⟨v', rfl, hown', hg, hob⟩)

theorem rq_len (c : Rq) : (Rq.cells c).length = 4 := rfl
/-- the two copies of an insertion in place, as lists -/
theorem shifted (cur : List Value) (L : List Rq) (i : Nat) (c : Rq) (hi : i ≤ L.length) (hl : (L.length + 1) * 4 ≤ cur.length) (ht : cur.take (L.length * 4) = flatQ L) :
    ∃ R, ((cur.take ((i + 1) * 4) ++ flatQ (L.drop i) ++ cur.drop ((i + 1) * 4 + (flatQ (L.drop i)).length)).take (i * 4) ++ Rq.cells c ++
      (cur.take ((i + 1) * 4) ++ flatQ (L.drop i) ++ cur.drop ((i + 1) * 4 + (flatQ (L.drop i)).length)).drop (i * 4 + 4)) = flatQ (L.take i ++ c :: L.drop i) ++ R ∧ (flatQ (L.take i ++ c :: L.drop i) ++ R).length = cur.length := by
  have hc4 := rq_len c
  have h1 : cur.take (i * 4) = flatQ (L.take i) := by
    rw [← flatQ_take, ← ht, List.take_take]
    congr 1
    omega
  have hd : (flatQ (L.drop i)).length = (L.length - i) * 4 := by rw [flatQ_length, List.length_drop]
  have hlt : (cur.take ((i + 1) * 4)).length = (i + 1) * 4 := by rw [List.length_take]; omega
  have e1 : (cur.take ((i + 1) * 4) ++ flatQ (L.drop i) ++ cur.drop ((i + 1) * 4 + (flatQ (L.drop i)).length)).take (i * 4) = flatQ (L.take i) := by
    rw [List.append_assoc, List.take_append_of_le_length (by omega), List.take_take, Nat.min_eq_left (by omega), h1]
  have e2 : (cur.take ((i + 1) * 4) ++ flatQ (L.drop i) ++ cur.drop ((i + 1) * 4 + (flatQ (L.drop i)).length)).drop (i * 4 + 4) = flatQ (L.drop i) ++ cur.drop ((i + 1) * 4 + (flatQ (L.drop i)).length) := by
    rw [List.append_assoc]
    exact List.drop_left' (by omega)
  have e3 : flatQ (L.take i ++ c :: L.drop i) = flatQ (L.take i) ++ (Rq.cells c ++ flatQ (L.drop i)) := by
    rw [flatQ_append]
    rfl
  refine ⟨cur.drop ((i + 1) * 4 + (flatQ (L.drop i)).length), ?_, ?_⟩
  · rw [e1, e2, e3]
    simp only [List.append_assoc]
  · rw [e3]
    have : (flatQ (L.take i)).length = i * 4 := by rw [flatQ_length, List.length_take]; omega
    simp only [List.length_append, List.length_drop, hd, this, List.length_cons, List.length_nil]
    omega

set_option maxHeartbeats 1000000 in
theorem linsert_in (L : List Rq) (g cap base i : Nat) (c : Rq) (vb : Nat) (w : World) (hL : L.length ≤ 100000) (hi : i < L.length) (hroom : L.length + 1 ≤ cap) (hown : w.ownsRow base 75 4 (.slice (some ⟨g, 0, none⟩) L.length cap) L.length (flatQ L))
    (hv : w.heap[vb]? = some (.cells (Rq.cells c).toArray 75 (0, 0))) (hne : vb ≠ g) :
    Calls Tryd.prog 41 #[.slice (some ⟨g, 0, none⟩) L.length cap, .int .i64 i, .slice (some ⟨vb, 0, none⟩) 1 1] w fun e w' =>
      e = .returned (.slice (some ⟨g, 0, none⟩) (L.length + 1) cap) ∧ w'.ownsRow base 75 4 (.slice (some ⟨g, 0, none⟩) (L.length + 1) cap) (L.length + 1) (flatQ (L.take i ++ c :: L.drop i)) ∧ w.grownBy w' (some g) := by
  have hown0 := hown
  have hc4 := rq_len c
  rcases hown.2 with ⟨h', _⟩ | ⟨g', cap', cur, h', hb, hg, hnc, hcm, hcs, htake⟩
  · simp at h'
  simp only [Value.slice.injEq, Option.some.injEq, Addr.mk.injEq, and_true, true_and] at h'
  obtain ⟨rfl, rfl⟩ := h'
  have hcl : cur.toList.length = cap * 4 := by simpa using hcs
  obtain ⟨R, hR, hRl⟩ := shifted cur.toList L i c (by omega) (by rw [hcl]; omega) htake
  have hsg : w.shape? g = some (75, cap * 4) := by rw [shape_of hg, hcs]
  have hsv : w.shape? vb = some (75, 4) := shape_of hv
  have hov : ∀ lb cb, (callFunc 54 #[.slice (some ⟨vb, 0, none⟩) 1 1, .slice (some ⟨g, (i + 1) * 4, none⟩) lb cb]).run Tryd.prog w = .ok (.value (.bool false)) w := fun lb cb => by
    obtain ⟨i0, z0, hi0, hz0, hz1, hz2, hz3⟩ := sizeQ
    rw [run_callFunc_extern Tryd.func54 (by kernel_rfl) (by kernel_rfl) (by kernel_rfl) (e := Extern.SlicesOverlaps.overlaps #[66, 66] #[4]) (by kernel_rfl),
      Lib.run_overlaps_apart w 66 4 75 elemR.ht 4 (fun w => by simp [sizeOf, typeInfo, hi0, hz1]) ⟨vb, 0, none⟩ ⟨g, (i + 1) * 4, none⟩ 1 1 lb cb hne 75 75 4 (cap * 4) hsv hsg (by omega) (by simp [World.frozen?, hv]) (by simp [World.frozen?, hv])]
    rfl
  have hdl : (flatQ (L.drop i)).length = (L.length - i) * 4 := by rw [flatQ_length, List.length_drop]
  have hm1 : Nat.min (L.length + 1 - i) (L.length + 1 - (i + 1)) = L.length - i := by simp only [Nat.min_def]; split <;> omega
  have hc1 := run_copy_k (P := Tryd.prog) w.drew 66 66 3 75 4 g ((i + 1) * 4) (L.length + 1 - (i + 1)) (cap - (i + 1)) ⟨g, i * 4, none⟩ (L.length + 1 - i) (cap - i) cur 75 (flatQ (L.drop i)) elemR.ht sizeC hg (by rw [hm1, hdl])
    (fun j u hj => by
      rw [Go.WideShapes.add_plain]
      have hjl := (List.getElem?_eq_some_iff.1 hj).1
      rw [hdl] at hjl
      rw [← flatQ_drop, List.getElem?_drop] at hj
      exact (hown0.cellAt (i * 4 + j) (by omega)).trans hj)
    (by rw [hdl, hcs]; omega) (fun v hv => flatQ_cells _ v hv)
  rw [hm1] at hc1
  obtain ⟨R1, hR1⟩ : ∃ R1, R1 = cur.toList.take ((i + 1) * 4) ++ flatQ (L.drop i) ++ cur.toList.drop ((i + 1) * 4 + (flatQ (L.drop i)).length) := ⟨_, rfl⟩
  rw [← hR1] at hc1 hR
  have hR1l : R1.length = cap * 4 := by
    rw [hR1]
    simp only [List.length_append, List.length_take, List.length_drop, Array.length_toList, hdl, hcs]
    omega
  have hg1 : (w.drew.setRow g R1.toArray).heap[g]? = some (.cells R1.toArray 75 (0, 0)) := setRow_heap w.drew g cur _ 75 _ hg
  have hv1 : (w.drew.setRow g R1.toArray).heap[vb]? = some (.cells (Rq.cells c).toArray 75 (0, 0)) := (setRow_other w.drew g vb _ hne).trans hv
  have hm2 : Nat.min 1 (L.length + 1 - i) = 1 := by simp only [Nat.min_def]; split <;> omega
  have hc2 := run_copy_k (P := Tryd.prog) (w.drew.setRow g R1.toArray) 66 66 3 75 4 g (i * 4) (L.length + 1 - i) (cap - i) ⟨vb, 0, none⟩ 1 1 R1.toArray 75 (Rq.cells c) elemR.ht sizeC hg1 (by rw [hm2]; rfl)
    (rq_at hv1)
    (by simp [hR1l]; omega) (elemR.one c)
  rw [hm2] at hc2
  have hfin : ((w.drew.setRow g R1.toArray).setRow g (R1.take (i * 4) ++ Rq.cells c ++ R1.drop (i * 4 + 4)).toArray).ownsRow base 75 4 (.slice (some ⟨g, 0, none⟩) (L.length + 1) cap) (L.length + 1) (flatQ (L.take i ++ c :: L.drop i)) := by
    have hl : (flatQ (L.take i ++ c :: L.drop i)).length = (L.length + 1) * 4 := by
      rw [flatQ_length]
      simp only [List.length_append, List.length_take, List.length_cons, List.length_drop]
      omega
    refine ⟨hl, .inr ⟨g, cap, _, rfl, hb, setRow_heap _ g _ _ 75 _ hg1, hroom, hcm, ?_, ?_⟩⟩
    · rw [hR]
      simp only [List.size_toArray, hRl, Array.length_toList, hcs]
    · rw [hR]
      simp only
      rw [← hl]
      exact List.take_left
  have hgr : w.grownBy ((w.drew.setRow g R1.toArray).setRow g (R1.take (i * 4) ++ Rq.cells c ++ R1.drop (i * 4 + 4)).toArray) (some g) :=
    ((Upd.refl w g).drew.trans (Upd.setRow _ g _)).trans (Upd.setRow _ g _)
  simp only [hc4] at hc2
  generalize (R1.take (i * 4) ++ Rq.cells c ++ R1.drop (i * 4 + 4)).toArray = R2 at *
  have q1 : ¬ (i : Int) = L.length := by omega
  have q2 : ¬ (cap : Int) < L.length + 1 := by omega
  have q3 : (L.length : Int) + 1 ≤ cap := by omega
  have q4 : (i : Int) + 1 ≤ L.length + 1 := by omega
  have q5 : ((L.length : Int) + 1).toNat = L.length + 1 := by omega
  have q6 : ((i : Int) + 1).toNat = i + 1 := by omega
  have q7 : ¬ cap = i + 1 := by omega
  have q8 : ¬ cap = i := by omega
  have q9 : (i : Int) ≤ L.length + 1 := by omega
  have q10 : (i : Int) ≤ L.length := by omega
  have q11 : (0 : Int) ≤ (L.length : Int) + 1 := by omega
  have q12 : (0 : Int) ≤ (i : Int) + 1 := by omega
  have q13 : IntKind.i64.wrap ((i : Int) + 1) = (i : Int) + 1 := IntWalk.i64_in _ ⟨by omega, by omega⟩
  clear hR hR1 hR1l hRl hm1 hm2 hdl hsg hsv hown hown0 hg hg1 hv1 hv htake hcs
  generalize hn : L.length = n at *
  simp only [maxLen] at hcm
  go_enter Tryd.func41, Tryd.ntmps41
  go_wp2_with (simp only [hov])
  go_region_law (refine step_copy_at rfl _ _ 66 66 rfl (.slice (some ⟨g, (i + 1) * 4, none⟩) (n + 1 - (i + 1)) (cap - (i + 1))) (.slice (some ⟨g, i * 4, none⟩) (n + 1 - i) (cap - i)) (by simp [Act.eval, Act.put]) (by simp [Act.eval, Act.put]) hc1 ?_)
  go_wp2_with (at_builtin; refine wpList_copy_at rfl _ _ 66 66 rfl _ _ rfl rfl hc2 ?_)
  go_ret
  exact ⟨rfl, hfin, hgr⟩

/-- the two copies of an insertion into a new block, as lists -/
theorem regrown (X : List Value) (L : List Rq) (i : Nat) (c : Rq) (hi : i ≤ L.length) (hl : (L.length + 1) * 4 ≤ X.length) (ht : X.take (i * 4) = flatQ (L.take i)) (Y : List Value) (hY : Y = X.take (i * 4) ++ Rq.cells c ++ X.drop (i * 4 + 4)) :
    ∃ R, Y.take ((i + 1) * 4) ++ flatQ (L.drop i) ++ Y.drop ((i + 1) * 4 + (flatQ (L.drop i)).length) = flatQ (L.take i ++ c :: L.drop i) ++ R ∧ (flatQ (L.take i ++ c :: L.drop i) ++ R).length = X.length ∧ Y.length = X.length := by
  have hc4 := rq_len c
  have hti : (flatQ (L.take i)).length = i * 4 := by rw [flatQ_length, List.length_take]; omega
  have hd : (flatQ (L.drop i)).length = (L.length - i) * 4 := by rw [flatQ_length, List.length_drop]
  have e1 : Y.take ((i + 1) * 4) = flatQ (L.take i) ++ Rq.cells c := by
    rw [hY, ht]
    exact List.take_left' (by simp [hti]; omega)
  have hYl : Y.length = X.length := by
    rw [hY, ht]
    simp only [List.length_append, hti, List.length_drop, List.length_cons, List.length_nil]
    omega
  have e3 : flatQ (L.take i ++ c :: L.drop i) = flatQ (L.take i) ++ Rq.cells c ++ flatQ (L.drop i) := by
    rw [flatQ_append]
    simp [flatQ]
  refine ⟨Y.drop ((i + 1) * 4 + (flatQ (L.drop i)).length), ?_, ?_, hYl⟩
  · rw [e1, e3]
  · rw [e3]
    simp only [List.length_append, List.length_drop, hd, hti, hYl, List.length_cons, List.length_nil]
    omega

set_option maxHeartbeats 1000000 in
theorem linsert_new (L : List Rq) (g cap base i : Nat) (c : Rq) (vb : Nat) (w : World) (hL : L.length ≤ 100000) (hi : i < L.length) (hroom : ¬ L.length + 1 ≤ cap) (hbase : base ≤ w.heap.size) (hown : w.ownsRow base 75 4 (.slice (some ⟨g, 0, none⟩) L.length cap) L.length (flatQ L))
    (hv : w.heap[vb]? = some (.cells (Rq.cells c).toArray 75 (0, 0))) :
    Calls Tryd.prog 41 #[.slice (some ⟨g, 0, none⟩) L.length cap, .int .i64 i, .slice (some ⟨vb, 0, none⟩) 1 1] w fun e w' =>
      ∃ G, e = .returned (.slice (some ⟨w.heap.size, 0, none⟩) (L.length + 1) G) ∧ w'.ownsRow base 75 4 (.slice (some ⟨w.heap.size, 0, none⟩) (L.length + 1) G) (L.length + 1) (flatQ (L.take i ++ c :: L.drop i)) ∧ w.grownBy w' (some g) := by
  have hcap : cap = L.length := by
    rcases hown.2 with ⟨h', _⟩ | ⟨g', cap', cur, h', hb, hg, hnc, _⟩
    · simp at h'
    · simp only [Value.slice.injEq, Option.some.injEq, Addr.mk.injEq, and_true, true_and] at h'
      omega
  subst hcap
  have hc4 := rq_len c
  have hcell := hown.cellAt
  obtain ⟨i0, z0, hi0, hz0, hz1, hz2, hz3⟩ := sizeQ
  have hold : (Builtin.firstCells i0.size i (.slice (some ⟨g, 0, none⟩) i L.length)).run Tryd.prog w.drew = .ok (flatQ (L.take i)).toArray w.drew := by
    rw [hz1]
    exact run_firstCells_some w.drew 4 i ⟨g, 0, none⟩ i L.length (flatQ (L.take i)) (by rw [flatQ_length, List.length_take]; omega) (fun j u hj => by
      rw [Go.WideShapes.add_plain, Nat.zero_add]
      have hjl := (List.getElem?_eq_some_iff.1 hj).1
      rw [flatQ_length, List.length_take] at hjl
      rw [← flatQ_take, List.getElem?_take, if_pos (by omega)] at hj
      exact (hcell j (by omega)).trans hj)
  have hik : i + (L.length + 1 - i) = L.length + 1 := by omega
  have hap := Lib.run_append_grow_zeros w 66 3 66 75 i0 _ .i64 .i64 elemR.ht Tryd.underlying3 hi0 hz0 (some ⟨g, 0, none⟩) i L.length (flatQ (L.take i)) hold (L.length + 1 - i) (by omega) (by omega) (by omega) (by omega) (by rw [hz2]; omega) (by
    rw [hz2, hik]
    exact growslice_fits (by omega) (by omega))
  rw [hik] at hap
  have hG1 : L.length + 1 ≤ grownCap w (L.length + 1) L.length 75 := grownCap_ge w _ _ _
  have hG2 : grownCap w (L.length + 1) L.length 75 ≤ 9223372036854775807 := by
    have := grownCap_le_maxLen w (L.length + 1) L.length 75 (by simp only [maxLen]; omega)
    simpa only [maxLen] using this
  generalize grownCap w (L.length + 1) L.length 75 = G at *
  obtain ⟨X, hX⟩ : ∃ X : Array Value, X = (flatQ (L.take i)).toArray ++ Builtin.zeroCells z0.cells (L.length + 1 - i) ++ Builtin.zeroCells z0.cells (G - (L.length + 1)) := ⟨_, rfl⟩
  rw [← hX] at hap
  have hti : (flatQ (L.take i)).length = i * 4 := by rw [flatQ_length, List.length_take]; omega
  have hXs : X.size = G * 4 := by
    rw [hX]
    simp only [Array.size_append, List.size_toArray, hti, size_zeroCells, hz3]
    omega
  have hXt : X.toList.take (i * 4) = flatQ (L.take i) := by
    rw [hX]
    simp only [Array.toList_append, List.append_assoc]
    exact List.take_left' hti
  clear hX hold
  have hXl : X.toList.length = G * 4 := by simpa using hXs
  obtain ⟨Y, hY⟩ : ∃ Y, Y = X.toList.take (i * 4) ++ Rq.cells c ++ X.toList.drop (i * 4 + 4) := ⟨_, rfl⟩
  obtain ⟨R, hR, hRl, hYl⟩ := regrown X.toList L i c (by omega) (by omega) hXt Y hY
  have hgl : g < w.heap.size := (hown.lt g rfl).2
  have hvl : vb < w.heap.size := (Array.getElem?_eq_some_iff.1 hv).1
  have hx1 : Ext w (w.drew.alloc (.cells X 75)) := ((Ext.refl w).drew).alloc _
  have hg1 : (w.drew.alloc (.cells X 75)).heap[w.heap.size]? = some (.cells X 75 (0, 0)) := World.alloc_heap_new w.drew _
  have hv1 := hx1.heap hv
  have hown1 := own_ext hown hx1
  generalize w.drew.alloc (.cells X 75) = W1 at *
  have hm1 : Nat.min 1 (L.length + 1 - i) = 1 := by simp only [Nat.min_def]; split <;> omega
  have hc1 := run_copy_k (P := Tryd.prog) W1 66 66 3 75 4 w.heap.size (i * 4) (L.length + 1 - i) (G - i) ⟨vb, 0, none⟩ 1 1 X 75 (Rq.cells c) elemR.ht sizeC hg1 (by rw [hm1]; rfl)
    (rq_at hv1)
    (by simp [hXs]; omega) (elemR.one c)
  simp only [hm1, hc4] at hc1
  rw [← hY] at hc1
  have hu2 : Upd W1 w.heap.size (W1.setRow w.heap.size Y.toArray) := Upd.setRow _ _ _
  have hg2 : (W1.setRow w.heap.size Y.toArray).drew.heap[w.heap.size]? = some (.cells Y.toArray 75 (0, 0)) := setRow_heap W1 w.heap.size X _ 75 _ hg1
  have hx2 : Ext w (W1.setRow w.heap.size Y.toArray) := Upd.ext hx1 hu2 (Nat.le_refl _)
  have hown2 := own_ext hown hx2.drew
  generalize W1.setRow w.heap.size Y.toArray = W2 at *
  have hm2 : Nat.min (L.length - i) (L.length + 1 - (i + 1)) = L.length - i := by simp only [Nat.min_def]; split <;> omega
  have hdl : (flatQ (L.drop i)).length = (L.length - i) * 4 := by rw [flatQ_length, List.length_drop]
  have hc2 := run_copy_k (P := Tryd.prog) W2.drew 66 66 3 75 4 w.heap.size ((i + 1) * 4) (L.length + 1 - (i + 1)) (G - (i + 1)) ⟨g, i * 4, none⟩ (L.length - i) (L.length - i) Y.toArray 75 (flatQ (L.drop i)) elemR.ht sizeC hg2 (by rw [hm2, hdl])
    (fun j u hj => by
      rw [Go.WideShapes.add_plain]
      have hjl := (List.getElem?_eq_some_iff.1 hj).1
      rw [hdl] at hjl
      rw [← flatQ_drop, List.getElem?_drop] at hj
      exact (hown2.cellAt (i * 4 + j) (by omega)).trans hj)
    (by simp only [List.size_toArray, hYl, hXl, hdl]; omega) (fun v hv => flatQ_cells _ v hv)
  simp only [hm2] at hc2
  rw [hR] at hc2
  have hfin : (W2.drew.setRow w.heap.size (flatQ (L.take i ++ c :: L.drop i) ++ R).toArray).ownsRow base 75 4 (.slice (some ⟨w.heap.size, 0, none⟩) (L.length + 1) G) (L.length + 1) (flatQ (L.take i ++ c :: L.drop i)) := by
    have hl : (flatQ (L.take i ++ c :: L.drop i)).length = (L.length + 1) * 4 := by
      rw [flatQ_length]
      simp only [List.length_append, List.length_take, List.length_cons, List.length_drop]
      omega
    refine ⟨hl, .inr ⟨w.heap.size, G, _, rfl, hbase, setRow_heap _ _ _ _ 75 _ hg2, hG1, by simpa only [maxLen] using hG2, ?_, ?_⟩⟩
    · simp only [List.size_toArray, hRl, hXl]
    · simp only
      rw [← hl]
      exact List.take_left
  have hgr : w.grownBy (W2.drew.setRow w.heap.size (flatQ (L.take i ++ c :: L.drop i) ++ R).toArray) (some g) :=
    Upd.of_ext (Upd.ext hx2.drew (Upd.setRow _ _ _) (Nat.le_refl _)) g
  generalize (flatQ (L.take i ++ c :: L.drop i) ++ R).toArray = R2 at *
  have q1 : ¬ (i : Int) = L.length := by omega
  have q3 : (L.length : Int) < L.length + 1 := by omega
  have q4 : (i : Int) + 1 ≤ L.length + 1 := by omega
  have q5 : ((L.length : Int) + 1).toNat = L.length + 1 := by omega
  have q6 : ((i : Int) + 1).toNat = i + 1 := by omega
  have q7 : ¬ G = i + 1 := by omega
  have q8 : ¬ G = i := by omega
  have q9 : (i : Int) ≤ L.length + 1 := by omega
  have q10 : (i : Int) ≤ L.length := by omega
  have q11 : (0 : Int) ≤ (L.length : Int) + 1 := by omega
  have q12 : (0 : Int) ≤ (i : Int) + 1 := by omega
  have q14 : ¬ L.length = i := by omega
  have hkk : (L.length : Int) + 1 - (i : Int) = ((L.length + 1 - i : Nat) : Int) := by omega
  rw [← hkk] at hap
  have q13 : IntKind.i64.wrap ((i : Int) + 1) = (i : Int) + 1 := IntWalk.i64_in _ ⟨by omega, by omega⟩
  clear hR hY hXs hXt hXl hYl hRl hm1 hm2 hdl hown hown1 hown2 hg1 hg2 hv1 hv hx1 hx2 hu2 hkk hik hti hcell hgl hvl hbase hroom
  generalize hn : L.length = n at *
  go_enter Tryd.func41, Tryd.ntmps41
  go_wp2_with (first
    | (at_builtin; refine Lib.wpList_append_run _ rfl _ _ _ _ rfl _ _ rfl rfl _ _ hap ?_)
    | (at_builtin; refine wpList_copy_at rfl _ _ 66 66 rfl _ _ rfl rfl hc1 ?_))
  go_region_law (refine step_copy_at rfl _ _ 66 66 rfl (.slice (some ⟨w.heap.size, (i + 1) * 4, none⟩) (n + 1 - (i + 1)) (G - (i + 1))) (.slice (some ⟨g, i * 4, none⟩) (n - i) (n - i)) (by simp [Act.eval, Act.put]) (by simp [Act.eval, Act.put]) hc2 ?_)
  go_wp2
  go_ret
  exact ⟨_, rfl, hfin, hgr⟩
theorem linsert_any (L : List Rq) (v : Value) (base i : Nat) (c : Rq) (vb : Nat) (w : World) (hL : L.length ≤ 100000) (hi : i ≤ L.length) (hbase : base ≤ w.heap.size) (hown : OwnG Rq.cells 75 4 w base v L)
    (hv : w.heap[vb]? = some (.cells (Rq.cells c).toArray 75 (0, 0))) (hne : v.ownBlock ≠ some vb) :
    Calls Tryd.prog 41 #[v, .int .i64 i, .slice (some ⟨vb, 0, none⟩) 1 1] w fun e w' =>
      ∃ v', e = .returned v' ∧ OwnG Rq.cells 75 4 w' base v' (L.take i ++ c :: L.drop i) ∧ w.grownBy w' v.ownBlock ∧ (v'.ownBlock = v.ownBlock ∨ v'.ownBlock = some w.heap.size) := by
  have hl : (L.take i ++ c :: L.drop i).length = L.length + 1 := by
    simp only [List.length_append, List.length_take, List.length_cons, List.length_drop]
    omega
  unfold OwnG
  rw [hl]
  by_cases h : i = L.length
  · subst h
    refine (linsert_end L v base c vb w hL hbase hown hv).mono ?_
    rintro e w' ⟨v', rfl, h1, h2, h3⟩
    refine ⟨v', rfl, ?_, h2, h3⟩
    rw [List.take_length, List.drop_length]
    exact h1
  · have hown0 := hown
    rcases hown.2 with ⟨rfl, h0⟩ | ⟨g, cap, cur, rfl, _⟩
    · omega
    · by_cases hr : L.length + 1 ≤ cap
      · refine (linsert_in L g cap base i c vb w hL (by omega) hr hown0 hv (fun e => hne (by rw [e]; rfl))).mono ?_
        rintro e w' ⟨rfl, h1, h2⟩
        exact ⟨_, rfl, h1, h2, .inl rfl⟩
      · refine (linsert_new L g cap base i c vb w hL (by omega) hr hbase hown0 hv).mono ?_
        rintro e w' ⟨G, rfl, h1, h2⟩
        exact ⟨_, rfl, h1, h2, .inr rfl⟩
theorem ldel_own (L : List Rq) (v : Value) (base i : Nat) (w : World) (hL : L.length ≤ 100000) (hi : i < L.length) (hown : OwnG Rq.cells 75 4 w base v L) :
    Calls Tryd.prog 58 #[v, .int .i64 i, .int .i64 (i + 1)] w fun e w' =>
      ∃ v', e = .returned v' ∧ OwnG Rq.cells 75 4 w' base v' (L.eraseIdx i) ∧ w.grownBy w' v.ownBlock ∧ v'.ownBlock = v.ownBlock := by
  obtain ⟨g, cap, rfl, _⟩ := hown.tight (by omega)
  refine (ldelete_any L g cap base i w hL hi hown).mono ?_
  rintro e w' ⟨rfl, h1, h2⟩
  refine ⟨_, rfl, ?_, h2, rfl⟩
  unfold OwnG
  rw [List.length_eraseIdx_of_lt hi]
  exact h1
end
section
open Go.RowKit Go.Sort
set_option linter.unusedVariables false
set_option linter.unusedSimpArgs false
set_option linter.unusedSectionVars false
set_option maxRecDepth 100000
attribute [local go_sem] Oper.semAt_some

def sortI (l : List Int) : List Int := l.mergeSort fun x y => decide (x ≤ y)
theorem sortI_pair (l : List Int) : (sortI l).Pairwise (· ≤ ·) := by
  have := List.pairwise_mergeSort (le := fun x y : Int => decide (x ≤ y)) (fun a b c h1 h2 => by simp at h1 h2 ⊢; omega) (fun a b => by simp; omega) l
  exact this.imp (fun h => by simpa using h)
theorem sortI_perm (l : List Int) : (sortI l).Perm l := List.mergeSort_perm _ _
theorem sortI_len (l : List Int) : (sortI l).length = l.length := (sortI_perm l).length_eq
theorem OwnG.kept {α : Type} {cs : α → List Value} {e : TypeId} {k : Nat} {w w' : World} {base : Nat} {v : Value} {l : List α} {row : Option Nat} (h : OwnG cs e k w base v l) (hg : w.grownBy w' row) (hne : v.ownBlock = none ∨ v.ownBlock ≠ row) : OwnG cs e k w' base v l := World.ownsRow.kept h hg hne
theorem OwnG.not_loop {α : Type} {cs : α → List Value} {e : TypeId} {k : Nat} {w : World} {base : Nat} {v : Value} {l : List α} (h : OwnG cs e k w base v l) {S : Nat} {o : Obj} (hS : w.heap[S]? = some o) (ho : ∀ c, o ≠ .cells c e (0, 0)) : v.ownBlock = none ∨ v.ownBlock ≠ some S := by
  rcases h.2 with ⟨rfl, _⟩ | ⟨g, cap, cur, rfl, _, hg, _⟩
  · exact .inl rfl
  · refine .inr fun e => ?_
    simp only [Value.ownBlock, Option.some.injEq] at e
    subst e
    rw [hS] at hg
    injection hg with hg
    exact ho _ hg
theorem OwnG.loop {α : Type} {cs : α → List Value} {e : TypeId} {k : Nat} {w : World} {base : Nat} {v : Value} {l : List α} (h : OwnG cs e k w base v l) {S : Nat} {r r' : Loop} (hS : w.heap[S]? = some (.loop r)) : OwnG cs e k (w.putObj S (.loop r')) base v l :=
  h.kept (grownBy_putObj' _ _ _) (h.not_loop hS (fun c e => by cases e))
theorem OwnG.down {α : Type} {cs : α → List Value} {e : TypeId} {k : Nat} {w : World} {base b' : Nat} {v : Value} {l : List α} (h : OwnG cs e k w base v l) (hb : b' ≤ base) : OwnG cs e k w b' v l := by
  refine ⟨h.1, ?_⟩
  rcases h.2 with h0 | ⟨g, cap, cur, h1, h2, h3⟩
  · exact .inl h0
  · exact .inr ⟨g, cap, cur, h1, Nat.le_trans hb h2, h3⟩
theorem flat_ints (l : List Int) : (l.flatMap fun x => [Value.int .i64 x]) = l.map (Value.int .i64) := by
  induction l with
  | nil => rfl
  | cons x l ih => rw [List.flatMap_cons, ih]; rfl
theorem Boxed.kept {w w' : World} {b : Nat} {T : TypeId} {v : Value} {row : Option Nat} (h : Boxed w b T v) (hg : w.grownBy w' row) (hne : row ≠ some b) : Boxed w' b T v := by
  have hl : b < w.heap.size := (Array.getElem?_eq_some_iff.1 h).1
  exact (hg.block b hl (fun e => hne e.symm)).trans h
set_option maxHeartbeats 4000000 in
theorem appendseqM (g : Nat) (lb : Array Value) (R : List Int → Array Value → List Int → Prop) (fin Pv : List Int → Prop) (N : Nat) (Kp : World → Prop) (hseq : SeqM Tryd.prog g lb R [] fin Kp) (eg : ∀ args w, (callFunc g args).run Tryd.prog w = .ok (.enter g args) w) (hN : N ≤ 300000)
    (hR : ∀ s e s', R s e s' → ∃ x, e = #[.int .i64 x] ∧ s' = s ++ [x] ∧ s.length < N) (hPv : ∀ s e s', R s e s' → Pv s → Pv s') (hP : Pv []) (w : World) (hK : ∀ A, Ext w A → Kp A) :
    Calls Tryd.prog 66 #[.slice none 0 0, .func (.func g) #[] lb] w fun e w' => (∃ v s, e = .returned v ∧ OwnI w' w.heap.size v s ∧ fin s ∧ Pv s ∧ s.length ≤ N) ∧ Ext w w' := by
  refine calls_of_wpAt Tryd.func66 rfl ?_
  simp only [Tryd.ntmps66, List.size_toArray, List.length_cons, List.length_nil, Nat.reduceAdd, Nat.reduceSub, Array.replicate_succ, Array.replicate_zero, List.push_toArray, List.append_toArray, List.nil_append, List.cons_append]
  refine wpAt_seq_k (fun K hK' => ?_)
  go_wp2
  obtain ⟨W0, hW0⟩ : ∃ W0, w.alloc (.cells #[.slice none 0 0] 30) = W0 := ⟨_, rfl⟩
  have hx0 : Ext w W0 := hW0 ▸ (Ext.refl w).alloc _
  have hs0 : W0.heap.size = w.heap.size + 1 := by rw [← hW0]; simp
  have hb0 : Boxed W0 w.heap.size 30 (.slice none 0 0) := hW0 ▸ Boxed.new _ _ _
  try rw [hW0]
  clear hW0
  generalize hcc : w.heap.size = c at *
  have HC := Lib.hid hcc
  clear hcc
  refine wpAt_seq ?_
  refine wpAt_seq_k (fun K hK' => ?_)
  go_wp2
  refine wpAt_block ?_
  refine wpAt_rangeFuncM (hf := Tryd.func66) (gf := g) (lb := lb) rfl eg hseq (fun s e s' h => by obtain ⟨x, rfl, _⟩ := hR _ _ _ h; rfl)
    (fun s W => ((∃ v, Boxed W c 30 v ∧ OwnI W (c + 1) v s ∧ v.ownBlock ≠ some (W0.heap.size + 2)) ∧ Ext w W) ∧ Pv s ∧ s.length ≤ N)
    (fun _ _ => False)
    (fun ch W => False)
    (fun i A B ⟨⟨⟨v, h1, h2, h5⟩, h3⟩, h4⟩ hx => ⟨⟨⟨v, hx.heap h1, h2.ext hx, h5⟩, h3.trans hx⟩, h4⟩)
    (fun i A B ⟨⟨⟨v, h1, h2, h5⟩, h3⟩, h4⟩ _ hx => ⟨⟨⟨v, Boxed.kept h1 hx (by intro e; injection e; omega), h2.kept hx (.inr h5), h5⟩, Upd.ext h3 hx (by have := HC.out; omega)⟩, h4⟩)
    (fun _ _ _ h _ => h)
    (fun i A r r' ⟨⟨⟨v, h1, h2, h5⟩, h3⟩, h4⟩ hl => ⟨⟨⟨v, (World.putObj_heap_other (by omega)).trans h1, h2.loop hl, h5⟩, Upd.ext h3 (grownBy_putObj' _ _ _) (by have := HC.out; omega)⟩, h4⟩)
    (fun _ _ _ _ h _ => h)
    (fun i A h => hK A h.1.2)
    ⟨⟨⟨_, hb0, OwnG.nil _ _ _ _ _, by simp [Value.ownBlock]⟩, hx0⟩, hP, Nat.zero_le _⟩ ?round ?done (fun _ _ h _ => h.elim) (fun _ _ h _ => h.elim)
  case round =>
    rintro s e s' W r ⟨⟨⟨v, h1, h2, h5⟩, h3⟩, h4, h7⟩ hW hD hL hi
    have hPs := hPv _ _ _ hi h4
    obtain ⟨x, rfl, rfl, hsN⟩ := hR _ _ _ hi
    gi_wp2
    refine ⟨trivial, trivial, trivial, ?_⟩
    rintro W5 r' hW5
    have hL5 : W5.heap[W0.heap.size + 1]? = some (.loop r') := by rw [hW5]; exact World.putObj_heap_same (by omega)
    have hD5 : W5.heap[W0.heap.size]? = some (.deferred (some [])) := by rw [hW5, World.putObj_heap_other (by omega)]; exact hD
    have hW5s : W0.heap.size + 2 < W5.heap.size := by rw [hW5]; simpa [World.putObj] using hW
    replace h2 : OwnI W5 (c + 1) v s := hW5 ▸ h2.loop hL
    replace h1 : Boxed W5 c 30 v := by rw [hW5]; exact (World.putObj_heap_other (by omega)).trans h1
    replace h3 : Ext w W5 := by rw [hW5]; exact Upd.ext h3 (grownBy_putObj' _ _ _) (by have := HC.out; omega)
    have hc5 := h1.cell
    clear hW5 hD hL hW hi
    have hsz := h3.size
    obtain ⟨i0, hi0, hz0, hz1, hz2⟩ := int_zero
    have hc5w := h1.lt
    have hDs : W0.heap.size < W5.heap.size := (Array.getElem?_eq_some_iff.1 hD5).1
    have hLs : W0.heap.size + 1 < W5.heap.size := (Array.getElem?_eq_some_iff.1 hL5).1
    have hn1 := h2.not_loop hL5 (fun c e => by cases e)
    have hn2 := h2.not_loop hD5 (fun c e => by cases e)
    have hn3 : v.ownBlock ≠ some c := fun e => by have := h2.base_ c e; omega
    have hrow : (W5.alloc (.cells #[.int .i64 x] 3)).ownsRow (c + 1) 3 1 v s.length (s.flatMap fun x => [Value.int .i64 x]) := h2.ext ((Ext.refl W5).alloc (.cells #[.int .i64 x] 3))
    have HPS := Lib.hid hPs
    clear hPs h4
    gi_wp2_with (gi_at_builtin; refine wpListIn_append_own_at _ rfl _ _ 30 rfl (c + 1) 3 i0 (.int .i64 0) 1 8 Tryd.underlying30 hi0 hz0 hz1 hz2 rfl (by decide) _ _ _ rfl hrow ⟨W5.heap.size, 0, none⟩ 1 1 [.int .i64 x] rfl rfl (cell_one_new _ _ _) ?s1 ?s2 ?s3 ?s4 ?_)
    case s1 => intro u hu; simp at hu; subst hu; rfl
    case s2 => unfold maxLen; omega
    case s3 => omega
    case s4 => simp; omega
    intro v' w6 hown' hg6 _ hob
    have hb6 : Boxed w6 c 30 v := (h1.alloc _).kept hg6 (fun e => hn3 e.symm)
    have hc6 := hb6.cell
    have hf6 := hb6.frozen
    have hD6 : w6.heap[W0.heap.size]? = some (.deferred (some [])) := (hg6.block _ (by simp; omega) (fun e => by rcases hn2 with h | h <;> rw [← e] at h; cases h; exact h rfl)).trans ((Below.heap_alloc _ _ _ hDs).trans hD5)
    have hL6 : w6.heap[W0.heap.size + 1]? = some (.loop r') := (hg6.block _ (by simp; omega) (fun e => by rcases hn1 with h | h <;> rw [← e] at h; cases h; exact h rfl)).trans ((Below.heap_alloc _ _ _ hLs).trans hL5)
    have hO6 : w6.heap[W0.heap.size + 2]? = W5.heap[W0.heap.size + 2]? := (hg6.block _ (by simp; omega) (fun e => h5 e.symm)).trans (Below.heap_alloc _ _ _ hW5s)
    have hbl : Below (c + 1) W5 w6 := (Below.alloc (Below.refl _ W5) (by omega) _).trans (Below.grown (Below.refl _ _) hg6 (by simp; omega) (fun k hk => h2.base_ k hk))
    have h36 : Ext w w6 := below_ext h3 hbl (by have := HC.out; omega)
    have hcs : c < w6.heap.size := hb6.lt
    have h56 : v'.ownBlock ≠ some (W0.heap.size + 2) := by
      rcases hob with e | e
      · rw [e]; exact h5
      · rw [e]
        intro e2
        injection e2 with e2
        try simp only [World.size_alloc] at e2
        omega
    have h0 : OwnI w6 (c + 1) v' (s ++ [x]) := by
      unfold OwnI OwnG
      rw [List.length_append, List.flatMap_append]
      exact hown'
    obtain ⟨g', cap', rfl, _⟩ := h0.tight (by simp)
    gi_wp2
    refine ⟨?_, ?_, ?_, ⟨⟨_, hb6.set _, ?_, h56⟩, h36.setCell (by have := HC.out; simp; omega) _⟩, HPS.out, by simp; omega⟩
    · exact (Below.heap_setCell _ _ _ _ (by simp; omega)).trans (hD6.trans hD5.symm)
    · exact (Below.heap_setCell _ _ _ _ (by simp; omega)).trans (hL6.trans hL5.symm)
    · exact (Below.heap_setCell _ _ _ _ (by simp; omega)).trans hO6
    · rw [List.length_append] at h0
      exact h0.kept (row := some c) (Upd.setCell w6 c 0 _) (.inr (fun e => by have := h0.base_ c e; omega))
  case done =>
    rintro s W hfin ⟨⟨⟨v, h1, h2, h5⟩, h3⟩, h4, h7⟩ hD
    have hc := h1.cell
    rw [hs0] at hD
    have HFN := Lib.hid (And.intro hfin (And.intro h4 h7))
    clear hfin h4 h7
    refine wpAt_of_wp ?_
    go_wp2
    refine ⟨by simp, .inl ⟨_, _, rfl, run_takeDeferred hD, ?_⟩⟩
    refine ⟨_, results_tmp rfl _ _ _, ⟨_, s, rfl, ?_, HFN.out.1, HFN.out.2.1, HFN.out.2.2⟩, ?_⟩
    · refine OwnG.down (base := c + 1) (h2.kept (row := some (c + 1)) (grownBy_putObj' _ _ _) (h2.not_loop hD (fun c e => by cases e))) (by have := HC.out; omega)
    · exact Upd.ext h3 (grownBy_putObj' _ _ _) (by have := HC.out; omega)
theorem collectM (g : Nat) (lb : Array Value) (R : List Int → Array Value → List Int → Prop) (fin Pv : List Int → Prop) (N : Nat) (Kp : World → Prop) (hseq : SeqM Tryd.prog g lb R [] fin Kp) (eg : ∀ args w, (callFunc g args).run Tryd.prog w = .ok (.enter g args) w) (hN : N ≤ 300000)
    (hR : ∀ s e s', R s e s' → ∃ x, e = #[.int .i64 x] ∧ s' = s ++ [x] ∧ s.length < N) (hPv : ∀ s e s', R s e s' → Pv s → Pv s') (hP : Pv []) (w : World) (hK : ∀ A, Ext w A → Kp A) :
    Calls Tryd.prog 48 #[.func (.func g) #[] lb] w fun e w' => (∃ v s, e = .returned v ∧ OwnI w' w.heap.size v s ∧ fin s ∧ Pv s ∧ s.length ≤ N) ∧ Ext w w' := by
  have hA := appendseqM g lb R fin Pv N Kp hseq eg hN hR hPv hP w hK
  go_enter Tryd.func48, Tryd.ntmps48
  go_wp2_with (go_at_call 66; refine hA.mono ?_; rintro e w1 ⟨⟨v, s, rfl, ho⟩, hx⟩)
  go_ret
  exact ⟨⟨_, _, rfl, ho⟩, hx⟩
theorem sortedM (g : Nat) (lb : Array Value) (R : List Int → Array Value → List Int → Prop) (fin Pv : List Int → Prop) (N : Nat) (Kp : World → Prop) (hseq : SeqM Tryd.prog g lb R [] fin Kp) (eg : ∀ args w, (callFunc g args).run Tryd.prog w = .ok (.enter g args) w) (hN : N ≤ 300000)
    (hR : ∀ s e s', R s e s' → ∃ x, e = #[.int .i64 x] ∧ s' = s ++ [x] ∧ s.length < N) (hPv : ∀ s e s', R s e s' → Pv s → Pv s') (hP : Pv []) (w : World) (hK : ∀ A, Ext w A → Kp A) :
    Calls Tryd.prog 32 #[.func (.func g) #[] lb] w fun e w' => (∃ v s, e = .returned v ∧ OwnI w' w.heap.size v (sortI s) ∧ fin s ∧ Pv s ∧ s.length ≤ N) ∧ Ext w w' := by
  have hA := collectM g lb R fin Pv N Kp hseq eg hN hR hPv hP w hK
  go_enter Tryd.func32, Tryd.ntmps32
  go_wp2_with (go_at_call 48; refine hA.mono ?_; rintro e w1 ⟨⟨v, zs, rfl, ho, hfin, hpv, hl⟩, hx⟩)
  rcases ho.2 with ⟨rfl, hz⟩ | ⟨gb, cap, cur, rfl, hbase, hgb, r1, r2, r3, r4⟩
  · obtain rfl : zs = [] := List.length_eq_zero_iff.1 hz
    have HF := Lib.hid (And.intro hfin (And.intro hpv hl))
    clear hfin hpv hl
    go_wp2_with (go_at_call 49; refine (Tryd.slices_Sort_int_none none 0 _).mono ?_; rintro e w2 ⟨rfl, rfl⟩)
    go_ret
    exact ⟨⟨_, [], rfl, by unfold sortI; rw [List.mergeSort_nil]; exact OwnG.nil _ _ _ _ _, HF.out.1, HF.out.2.1, HF.out.2.2⟩, hx⟩
  · rw [flat_ints] at r4
    have hH : Holds encZ w1 gb 0 zs.toArray := holds_of_block_i hgb (by simpa using r4)
    have hgl : gb < w1.heap.size := (Array.getElem?_eq_some_iff.1 hgb).1
    have hS := Tryd.slices_Sort_int gb 0 cap zs w1 hH hgl (by omega)
    have HF := Lib.hid (And.intro hfin (And.intro hpv hl))
    clear hfin hpv hl
    go_wp2_with (go_at_call 49; refine hS.mono ?_; rintro e w2 ⟨rfl, n2, os, rfl⟩)
    go_ret
    refine ⟨⟨_, zs, rfl, ?_, HF.out.1, HF.out.2.1, HF.out.2.2⟩, Below.grown hx (grownBy_sorted_i _) hx.size (fun k hk => by cases hk; exact hbase)⟩
    have := ownsRow_sorted_i (w := w1) (n := n2) (os := os) (ss := zs) (ts := sortI zs) (sortI_len zs) hbase hgb r1 r2 r3
    unfold OwnI OwnG
    rw [flat_ints, sortI_len]
    exact this
end
end Go.Proofs.YtaciedooeeklpaaDoor
