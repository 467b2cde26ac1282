/- Ins; Put (merged by group.py) -/
import Derived.Test.YtcbainmpikcfjaaQ06
import Derived.Lib.AppendZerosOnto
import Derived.Lib.Overlaps
import Derived.Laws.Externs
namespace Go.Proofs.Ytcbainmpikcfjaa
section
open Go.RowKit
set_option linter.unusedVariables false
set_option maxRecDepth 20000

/-- copy of elements of k cells into a block that is known whole -/
theorem run_copy_k {P : Program} (w : World) (dT sT ty elem : TypeId) (k g o dLen dCap : Nat) (a : Addr) (sLen sCap : Nat) (cur : Array Value) (t : TypeId) (cs : List Value)
    (hu : P.underlying dT = some (.slice elem)) (hs : (P.info? elem).map (·.size) = some k)
    (hg : w.heap[g]? = some (.cells cur t (0, 0))) (hn : cs.length = Nat.min sLen dLen * k)
    (hsrc : ∀ j v, cs[j]? = some v → w.cell? (a.add j) = some v) (hfit : o + cs.length ≤ cur.size) (h1 : ∀ v ∈ cs, v.oneCell' = true) :
    (Builtin.copy_ #[dT, sT] ty #[.slice (some ⟨g, o, none⟩) dLen dCap, .slice (some a) sLen sCap]).run P w =
      .ok (goInt (Nat.min sLen dLen)) (w.setRow g (cur.toList.take o ++ cs ++ cur.toList.drop (o + cs.length)).toArray) := by
  have hl := run_loadCells_list (P := P) w a cs hsrc
  have hst := run_storeCells_at P g o t cs 0 cur w hg (by simpa using hfit) h1
  cases hq : P.info? elem with
  | none => simp [hq] at hs
  | some i =>
    have hi : i.size = k := by simpa [hq] using hs
    simp only [Nat.add_zero] at hst
    simp [Builtin.copy_, run_underlying hu, Builtin.lenOf, Builtin.firstCells, sizeOf, typeInfo, hq, hi, ← hn, hl, hst]

section
variable {P : Program} {w : World} {ops : Array Oper} {rest : List Oper} {o : Oper} {a : Act} {K : Act → World → Prop} {Q : Exit → Act → World → Prop} {E : Prop}
theorem wp_copy_at (d s : Operand) (t t' : TypeId) (ho : o.op = .call { callee := .builtin .copy, args := #[d, s], argTypes := #[t, t'] }) (v u : Value) (hd : a.eval d = v) (hs : a.eval s = u) {v' : Value} {w' : World}
    (hr : (Builtin.copy_ #[t, t'] o.type #[v, u]).run P w = .ok v' w') (h : K (a.put o.dst v') w') : o.wp P a w K Q := by
  unfold Oper.wp execOp
  simp only [ho, resolve, invoke, builtin, Sem.run_bind, Sem.run_pure, Result.andThen_ok, List.map_toArray, List.map_cons, List.map_nil, hd, hs, hr]
  exact h
theorem wpList_copy_at (hgd : o.guard = none) (d s : Operand) (t t' : TypeId) (ho : o.op = .call { callee := .builtin .copy, args := #[d, s], argTypes := #[t, t'] }) (v u : Value) (hd : a.eval d = v) (hs : a.eval s = u) {v' : Value} {w' : World}
    (hr : (Builtin.copy_ #[t, t'] o.type #[v, u]).run P w = .ok v' w') (h : wpList P ops Q rest (a.put o.dst v') w') : wpList P ops Q (o :: rest) a w :=
  wpList_plain hgd fun _ hK => wp_copy_at d s t t' ho v u hd hs hr (hK _ _ h)
theorem step_copy_at (hgd : o.guard = none) (d s : Operand) (t t' : TypeId) (ho : o.op = .call { callee := .builtin .copy, args := #[d, s], argTypes := #[t, t'] }) (v u : Value) (hd : a.eval d = v) (hs : a.eval s = u) {v' : Value} {w' : World}
    (hr : (Builtin.copy_ #[t, t'] o.type #[v, u]).run P w = .ok v' w') (h : K (a.put o.dst v') w') : if Region.wanted o (yielded ops a.tmps) = true then Oper.wp P o a w K Q else E := by
  rw [if_pos (by simp [Region.wanted, hgd])]
  exact wp_copy_at d s t t' ho v u hd hs hr h
end

theorem shape_of {w : World} {g : Nat} {cur : Array Value} {e : TypeId} (h : w.heap[g]? = some (.cells cur e (0, 0))) : w.shape? g = some (e, cur.size) := by
  simp [World.shape?, h]
theorem flatC_one (c : Cel) : flatC [c] = [.int .i64 c.1, .string c.2] := rfl
theorem flatC_append (a b : List Cel) : flatC (a ++ b) = flatC a ++ flatC b := by simp [flatC]
theorem flatC_cells (l : List Cel) : ∀ v ∈ flatC l, v.oneCell' = true := fun v hv => by
  simp only [flatC, List.mem_flatMap] at hv
  obtain ⟨c, _, hc⟩ := hv
  simp at hc
  rcases hc with rfl | rfl <;> rfl
theorem sizeC : (Try.prog.info? 91).map (·.size) = some 2 := by kernel_rfl

theorem insert_end (L : List Cel) (v : Value) (base : Nat) (c : Cel) (vb : Nat) (w : World) (hL : L.length ≤ 200) (hbase : base ≤ w.heap.size) (hown : w.ownsRow base 91 2 v L.length (flatC L))
    (hv : w.heap[vb]? = some (.cells #[.int .i64 c.1, .string c.2] 91 (0, 0))) :
    Calls Try.prog 69 #[v, .int .i64 L.length, .slice (some ⟨vb, 0, none⟩) 1 1] w fun e w' =>
      ∃ v', e = .returned v' ∧ w'.ownsRow base 91 2 v' (L.length + 1) (flatC (L ++ [c])) ∧ w.grownBy w' v.ownBlock := by
  have hcell : ∀ j u, [Value.int .i64 c.1, .string c.2][j]? = some u → w.cell? ((⟨vb, 0, none⟩ : Addr).add j) = some u := by
    intro j u hj
    rw [Go.WideShapes.add_plain, Nat.zero_add]
    match j, hj with
    | 0, hj => simp at hj; subst hj; simp [World.cell?, hv]
    | 1, hj => simp at hj; subst hj; simp [World.cell?, hv]
  obtain ⟨v', w', hrun, hown', hg, _, _⟩ := append_cell w base v L.length (flatC L) hown ⟨vb, 0, none⟩ (.int .i64 c.1) (.string c.2) hcell rfl rfl (by omega) hbase
  rw [← flatC_snoc] at hown'
  have hcase : (∃ g cap, v = .slice (some ⟨g, 0, none⟩) L.length cap) ∨ (v = .slice none 0 0 ∧ L.length = 0) := by
    rcases hown.2 with h | ⟨g, cap, cur, h, _⟩
    · exact .inr h
    · exact .inl ⟨g, cap, h⟩
  generalize hn : L.length = n at *
  rcases hcase with ⟨g, cap, rfl⟩ | ⟨rfl, rfl⟩
  · go_enter Try.func69, Try.ntmps69
    go_wp2_with (at_builtin; refine Lib.wpList_append_run _ rfl _ _ _ _ rfl _ _ rfl rfl _ _ hrun ?_)
    all_goals (
      go_ret
      exact ⟨v', rfl, hown', hg⟩)
  · go_enter Try.func69, Try.ntmps69
    go_wp2_with (at_builtin; refine Lib.wpList_append_run _ rfl _ _ _ _ rfl _ _ rfl rfl _ _ hrun ?_)
    all_goals (
      go_ret
      exact ⟨v', rfl, hown', hg⟩)

/-- the two copies of an insertion in place, as lists -/
theorem shifted (cur : List Value) (L : List Cel) (i : Nat) (c : Cel) (hi : i ≤ L.length) (hl : (L.length + 1) * 2 ≤ cur.length) (ht : cur.take (L.length * 2) = flatC L) :
    ∃ R, ((cur.take ((i + 1) * 2) ++ flatC (L.drop i) ++ cur.drop ((i + 1) * 2 + (flatC (L.drop i)).length)).take (i * 2) ++ [.int .i64 c.1, .string c.2] ++
      (cur.take ((i + 1) * 2) ++ flatC (L.drop i) ++ cur.drop ((i + 1) * 2 + (flatC (L.drop i)).length)).drop (i * 2 + 2)) = flatC (L.take i ++ c :: L.drop i) ++ R ∧ (flatC (L.take i ++ c :: L.drop i) ++ R).length = cur.length := by
  have h1 : cur.take (i * 2) = flatC (L.take i) := by
    rw [← flatC_take, ← ht, List.take_take]
    congr 1
    omega
  have hd : (flatC (L.drop i)).length = (L.length - i) * 2 := by rw [flatC_length, List.length_drop]
  have hlt : (cur.take ((i + 1) * 2)).length = (i + 1) * 2 := by rw [List.length_take]; omega
  have e1 : (cur.take ((i + 1) * 2) ++ flatC (L.drop i) ++ cur.drop ((i + 1) * 2 + (flatC (L.drop i)).length)).take (i * 2) = flatC (L.take i) := by
    rw [List.append_assoc, List.take_append_of_le_length (by omega), List.take_take, Nat.min_eq_left (by omega), h1]
  have e2 : (cur.take ((i + 1) * 2) ++ flatC (L.drop i) ++ cur.drop ((i + 1) * 2 + (flatC (L.drop i)).length)).drop (i * 2 + 2) = flatC (L.drop i) ++ cur.drop ((i + 1) * 2 + (flatC (L.drop i)).length) := by
    rw [List.append_assoc]
    exact List.drop_left' (by omega)
  have e3 : flatC (L.take i ++ c :: L.drop i) = flatC (L.take i) ++ ([.int .i64 c.1, .string c.2] ++ flatC (L.drop i)) := by
    rw [flatC_append]
    rfl
  refine ⟨cur.drop ((i + 1) * 2 + (flatC (L.drop i)).length), ?_, ?_⟩
  · rw [e1, e2, e3]
    simp only [List.append_assoc]
  · rw [e3]
    have : (flatC (L.take i)).length = i * 2 := by rw [flatC_length, List.length_take]; omega
    simp only [List.length_append, List.length_drop, hd, this, List.length_cons, List.length_nil]
    omega

set_option maxHeartbeats 1000000 in
theorem insert_in (L : List Cel) (g cap base i : Nat) (c : Cel) (vb : Nat) (w : World) (hL : L.length ≤ 200) (hi : i < L.length) (hroom : L.length + 1 ≤ cap) (hown : w.ownsRow base 91 2 (.slice (some ⟨g, 0, none⟩) L.length cap) L.length (flatC L))
    (hv : w.heap[vb]? = some (.cells #[.int .i64 c.1, .string c.2] 91 (0, 0))) (hne : vb ≠ g) :
    Calls Try.prog 69 #[.slice (some ⟨g, 0, none⟩) L.length cap, .int .i64 i, .slice (some ⟨vb, 0, none⟩) 1 1] w fun e w' =>
      e = .returned (.slice (some ⟨g, 0, none⟩) (L.length + 1) cap) ∧ w'.ownsRow base 91 2 (.slice (some ⟨g, 0, none⟩) (L.length + 1) cap) (L.length + 1) (flatC (L.take i ++ c :: L.drop i)) ∧ w.grownBy w' (some g) := by
  have hown0 := hown
  rcases hown.2 with ⟨h', _⟩ | ⟨g', cap', cur, h', hb, hg, hnc, hcm, hcs, htake⟩
  · simp at h'
  simp only [Value.slice.injEq, Option.some.injEq, Addr.mk.injEq, and_true, true_and] at h'
  obtain ⟨rfl, rfl⟩ := h'
  have hcl : cur.toList.length = cap * 2 := by simpa using hcs
  obtain ⟨R, hR, hRl⟩ := shifted cur.toList L i c (by omega) (by rw [hcl]; omega) htake
  have hsg : w.shape? g = some (91, cap * 2) := by rw [shape_of hg, hcs]
  have hsv : w.shape? vb = some (91, 2) := shape_of hv
  have hov : ∀ lb cb, (callFunc 74 #[.slice (some ⟨vb, 0, none⟩) 1 1, .slice (some ⟨g, (i + 1) * 2, none⟩) lb cb]).run Try.prog w = .ok (.value (.bool false)) w := fun lb cb => by
    obtain ⟨i0, hi0, hz0, hz1, hz2⟩ := info_parts Try.infoC
    rw [run_callFunc_extern Try.func74 (by kernel_rfl) (by kernel_rfl) (by kernel_rfl) (e := Extern.SlicesOverlaps.overlaps #[89, 89] #[4]) (by kernel_rfl),
      Lib.run_overlaps_apart w 89 4 91 Try.underlying89 2 (fun w => by simp [sizeOf, typeInfo, hi0, hz1]) ⟨vb, 0, none⟩ ⟨g, (i + 1) * 2, none⟩ 1 1 lb cb hne 91 91 2 (cap * 2) hsv hsg (by omega) (by simp [World.frozen?, hv]) (by simp [World.frozen?, hv])]
    rfl
  have hdl : (flatC (L.drop i)).length = (L.length - i) * 2 := by rw [flatC_length, List.length_drop]
  have hm1 : Nat.min (L.length + 1 - i) (L.length + 1 - (i + 1)) = L.length - i := by simp only [Nat.min_def]; split <;> omega
  have hc1 := run_copy_k (P := Try.prog) w.drew 89 89 3 91 2 g ((i + 1) * 2) (L.length + 1 - (i + 1)) (cap - (i + 1)) ⟨g, i * 2, none⟩ (L.length + 1 - i) (cap - i) cur 91 (flatC (L.drop i)) Try.underlying89 sizeC hg (by rw [hm1, hdl])
    (fun j u hj => by
      rw [Go.WideShapes.add_plain]
      have hjl := (List.getElem?_eq_some_iff.1 hj).1
      rw [hdl] at hjl
      rw [← flatC_drop, List.getElem?_drop] at hj
      exact (hown0.cellAt (i * 2 + j) (by omega)).trans hj)
    (by rw [hdl, hcs]; omega) (fun v hv => flatC_cells _ v hv)
  rw [hm1] at hc1
  obtain ⟨R1, hR1⟩ : ∃ R1, R1 = cur.toList.take ((i + 1) * 2) ++ flatC (L.drop i) ++ cur.toList.drop ((i + 1) * 2 + (flatC (L.drop i)).length) := ⟨_, rfl⟩
  rw [← hR1] at hc1 hR
  have hR1l : R1.length = cap * 2 := by
    rw [hR1]
    simp only [List.length_append, List.length_take, List.length_drop, Array.length_toList, hdl, hcs]
    omega
  have hg1 : (w.drew.setRow g R1.toArray).heap[g]? = some (.cells R1.toArray 91 (0, 0)) := setRow_heap w.drew g cur _ 91 _ hg
  have hv1 : (w.drew.setRow g R1.toArray).heap[vb]? = some (.cells #[.int .i64 c.1, .string c.2] 91 (0, 0)) := (setRow_other w.drew g vb _ hne).trans hv
  have hm2 : Nat.min 1 (L.length + 1 - i) = 1 := by simp only [Nat.min_def]; split <;> omega
  have hc2 := run_copy_k (P := Try.prog) (w.drew.setRow g R1.toArray) 89 89 3 91 2 g (i * 2) (L.length + 1 - i) (cap - i) ⟨vb, 0, none⟩ 1 1 R1.toArray 91 [.int .i64 c.1, .string c.2] Try.underlying89 sizeC hg1 (by rw [hm2]; rfl)
    (fun j u hj => by
      rw [Go.WideShapes.add_plain, Nat.zero_add]
      match j, hj with
      | 0, hj => simp at hj; subst hj; simp [World.cell?, hv1]
      | 1, hj => simp at hj; subst hj; simp [World.cell?, hv1])
    (by simp [hR1l]; omega) (by simp [Value.oneCell'])
  rw [hm2] at hc2
  have hfin : ((w.drew.setRow g R1.toArray).setRow g (R1.take (i * 2) ++ [Value.int .i64 c.1, Value.string c.2] ++ R1.drop (i * 2 + 2)).toArray).ownsRow base 91 2 (.slice (some ⟨g, 0, none⟩) (L.length + 1) cap) (L.length + 1) (flatC (L.take i ++ c :: L.drop i)) := by
    have hl : (flatC (L.take i ++ c :: L.drop i)).length = (L.length + 1) * 2 := by
      rw [flatC_length]
      simp only [List.length_append, List.length_take, List.length_cons, List.length_drop]
      omega
    refine ⟨hl, .inr ⟨g, cap, _, rfl, hb, setRow_heap _ g _ _ 91 _ hg1, hroom, hcm, ?_, ?_⟩⟩
    · rw [hR]
      simp only [List.size_toArray, hRl, Array.length_toList, hcs]
    · rw [hR]
      simp only
      rw [← hl]
      exact List.take_left
  have hgr : w.grownBy ((w.drew.setRow g R1.toArray).setRow g (R1.take (i * 2) ++ [Value.int .i64 c.1, Value.string c.2] ++ R1.drop (i * 2 + 2)).toArray) (some g) :=
    ((Upd.refl w g).drew.trans (Upd.setRow _ g _)).trans (Upd.setRow _ g _)
  simp only [List.length_cons, List.length_nil, Nat.zero_add, Nat.reduceAdd] at hc2
  generalize (R1.take (i * 2) ++ [Value.int .i64 c.1, Value.string c.2] ++ R1.drop (i * 2 + 2)).toArray = R2 at *
  have q1 : ¬ (i : Int) = L.length := by omega
  have q2 : ¬ (cap : Int) < L.length + 1 := by omega
  have q3 : (L.length : Int) + 1 ≤ cap := by omega
  have q4 : (i : Int) + 1 ≤ L.length + 1 := by omega
  have q5 : ((L.length : Int) + 1).toNat = L.length + 1 := by omega
  have q6 : ((i : Int) + 1).toNat = i + 1 := by omega
  have q7 : ¬ cap = i + 1 := by omega
  have q8 : ¬ cap = i := by omega
  have q9 : (i : Int) ≤ L.length + 1 := by omega
  have q10 : (i : Int) ≤ L.length := by omega
  have q11 : (0 : Int) ≤ (L.length : Int) + 1 := by omega
  have q12 : (0 : Int) ≤ (i : Int) + 1 := by omega
  have q13 : IntKind.i64.wrap ((i : Int) + 1) = (i : Int) + 1 := IntWalk.i64_in _ ⟨by omega, by omega⟩
  clear hR hR1 hR1l hRl hm1 hm2 hdl hsg hsv hown hown0 hg hg1 hv1 hv htake hcs
  generalize hn : L.length = n at *
  simp only [maxLen] at hcm
  go_enter Try.func69, Try.ntmps69
  go_wp2_with (simp only [hov])
  go_region_law (refine step_copy_at rfl _ _ 89 89 rfl (.slice (some ⟨g, (i + 1) * 2, none⟩) (n + 1 - (i + 1)) (cap - (i + 1))) (.slice (some ⟨g, i * 2, none⟩) (n + 1 - i) (cap - i)) (by simp [Act.eval, Act.put]) (by simp [Act.eval, Act.put]) hc1 ?_)
  go_wp2_with (at_builtin; refine wpList_copy_at rfl _ _ 89 89 rfl _ _ rfl rfl hc2 ?_)
  go_ret
  exact ⟨rfl, hfin, hgr⟩

/-- the two copies of an insertion into a new block, as lists -/
theorem regrown (X : List Value) (L : List Cel) (i : Nat) (c : Cel) (hi : i ≤ L.length) (hl : (L.length + 1) * 2 ≤ X.length) (ht : X.take (i * 2) = flatC (L.take i)) (Y : List Value) (hY : Y = X.take (i * 2) ++ [Value.int .i64 c.1, Value.string c.2] ++ X.drop (i * 2 + 2)) :
    ∃ R, Y.take ((i + 1) * 2) ++ flatC (L.drop i) ++ Y.drop ((i + 1) * 2 + (flatC (L.drop i)).length) = flatC (L.take i ++ c :: L.drop i) ++ R ∧ (flatC (L.take i ++ c :: L.drop i) ++ R).length = X.length ∧ Y.length = X.length := by
  have hti : (flatC (L.take i)).length = i * 2 := by rw [flatC_length, List.length_take]; omega
  have hd : (flatC (L.drop i)).length = (L.length - i) * 2 := by rw [flatC_length, List.length_drop]
  have e1 : Y.take ((i + 1) * 2) = flatC (L.take i) ++ [.int .i64 c.1, .string c.2] := by
    rw [hY, ht]
    exact List.take_left' (by simp [hti]; omega)
  have hYl : Y.length = X.length := by
    rw [hY, ht]
    simp only [List.length_append, hti, List.length_drop, List.length_cons, List.length_nil]
    omega
  have e3 : flatC (L.take i ++ c :: L.drop i) = flatC (L.take i) ++ [.int .i64 c.1, .string c.2] ++ flatC (L.drop i) := by
    rw [flatC_append]
    simp [flatC]
  refine ⟨Y.drop ((i + 1) * 2 + (flatC (L.drop i)).length), ?_, ?_, hYl⟩
  · rw [e1, e3]
  · rw [e3]
    simp only [List.length_append, List.length_drop, hd, hti, hYl, List.length_cons, List.length_nil]
    omega

set_option maxHeartbeats 1000000 in
theorem insert_new (L : List Cel) (g cap base i : Nat) (c : Cel) (vb : Nat) (w : World) (hL : L.length ≤ 200) (hi : i < L.length) (hroom : ¬ L.length + 1 ≤ cap) (hbase : base ≤ w.heap.size) (hown : w.ownsRow base 91 2 (.slice (some ⟨g, 0, none⟩) L.length cap) L.length (flatC L))
    (hv : w.heap[vb]? = some (.cells #[.int .i64 c.1, .string c.2] 91 (0, 0))) :
    Calls Try.prog 69 #[.slice (some ⟨g, 0, none⟩) L.length cap, .int .i64 i, .slice (some ⟨vb, 0, none⟩) 1 1] w fun e w' =>
      ∃ h G, e = .returned (.slice (some ⟨h, 0, none⟩) (L.length + 1) G) ∧ w'.ownsRow base 91 2 (.slice (some ⟨h, 0, none⟩) (L.length + 1) G) (L.length + 1) (flatC (L.take i ++ c :: L.drop i)) ∧ w.grownBy w' (some g) := by
  have hcap : cap = L.length := by
    rcases hown.2 with ⟨h', _⟩ | ⟨g', cap', cur, h', hb, hg, hnc, _⟩
    · simp at h'
    · simp only [Value.slice.injEq, Option.some.injEq, Addr.mk.injEq, and_true, true_and] at h'
      omega
  subst hcap
  have hcell := hown.cellAt
  obtain ⟨i0, hi0, hz0, hz1, hz2⟩ := info_parts Try.infoC
  have hold : (Builtin.firstCells i0.size i (.slice (some ⟨g, 0, none⟩) i L.length)).run Try.prog w.drew = .ok (flatC (L.take i)).toArray w.drew := by
    rw [hz1]
    exact run_firstCells_some w.drew 2 i ⟨g, 0, none⟩ i L.length (flatC (L.take i)) (by rw [flatC_length, List.length_take]; omega) (fun j u hj => by
      rw [Go.WideShapes.add_plain, Nat.zero_add]
      have hjl := (List.getElem?_eq_some_iff.1 hj).1
      rw [flatC_length, List.length_take] at hjl
      rw [← flatC_take, List.getElem?_take, if_pos (by omega)] at hj
      exact (hcell j (by omega)).trans hj)
  have hik : i + (L.length + 1 - i) = L.length + 1 := by omega
  have hap := Lib.run_append_grow_zeros w 89 3 89 91 i0 _ .i64 .i64 Try.underlying89 Try.underlying3 hi0 hz0 (some ⟨g, 0, none⟩) i L.length (flatC (L.take i)) hold (L.length + 1 - i) (by omega) (by omega) (by omega) (by omega) (by rw [hz2]; omega) (by
    rw [hz2, hik]
    exact growslice_fits (by omega) (by omega))
  rw [hik] at hap
  have hG1 : L.length + 1 ≤ grownCap w (L.length + 1) L.length 91 := grownCap_ge w _ _ _
  have hG2 : grownCap w (L.length + 1) L.length 91 ≤ 9223372036854775807 := by
    have := grownCap_le_maxLen w (L.length + 1) L.length 91 (by simp only [maxLen]; omega)
    simpa only [maxLen] using this
  generalize grownCap w (L.length + 1) L.length 91 = G at *
  obtain ⟨X, hX⟩ : ∃ X : Array Value, X = (flatC (L.take i)).toArray ++ Builtin.zeroCells (Value.agg #[.int .i64 0, .string ⟨#[]⟩]).cells (L.length + 1 - i) ++ Builtin.zeroCells (Value.agg #[.int .i64 0, .string ⟨#[]⟩]).cells (G - (L.length + 1)) := ⟨_, rfl⟩
  rw [← hX] at hap
  have hti : (flatC (L.take i)).length = i * 2 := by rw [flatC_length, List.length_take]; omega
  have hXs : X.size = G * 2 := by
    rw [hX]
    simp only [Array.size_append, List.size_toArray, hti, size_zeroCells, Value.cells]
    simp
    omega
  have hXt : X.toList.take (i * 2) = flatC (L.take i) := by
    rw [hX]
    simp only [Array.toList_append, List.append_assoc]
    exact List.take_left' hti
  clear hX hold
  have hXl : X.toList.length = G * 2 := by simpa using hXs
  obtain ⟨Y, hY⟩ : ∃ Y, Y = X.toList.take (i * 2) ++ [Value.int .i64 c.1, Value.string c.2] ++ X.toList.drop (i * 2 + 2) := ⟨_, rfl⟩
  obtain ⟨R, hR, hRl, hYl⟩ := regrown X.toList L i c (by omega) (by omega) hXt Y hY
  have hgl : g < w.heap.size := (hown.lt g rfl).2
  have hvl : vb < w.heap.size := (Array.getElem?_eq_some_iff.1 hv).1
  have hx1 : Ext w (w.drew.alloc (.cells X 91)) := ((Ext.refl w).drew).alloc _
  have hg1 : (w.drew.alloc (.cells X 91)).heap[w.heap.size]? = some (.cells X 91 (0, 0)) := heap_alloc_new w.drew _
  have hv1 := hx1.heap hv
  have hown1 := ownsRow_ext hown hx1
  generalize w.drew.alloc (.cells X 91) = W1 at *
  have hm1 : Nat.min 1 (L.length + 1 - i) = 1 := by simp only [Nat.min_def]; split <;> omega
  have hc1 := run_copy_k (P := Try.prog) W1 89 89 3 91 2 w.heap.size (i * 2) (L.length + 1 - i) (G - i) ⟨vb, 0, none⟩ 1 1 X 91 [.int .i64 c.1, .string c.2] Try.underlying89 sizeC hg1 (by rw [hm1]; rfl)
    (fun j u hj => by
      rw [Go.WideShapes.add_plain, Nat.zero_add]
      match j, hj with
      | 0, hj => simp at hj; subst hj; simp [World.cell?, hv1]
      | 1, hj => simp at hj; subst hj; simp [World.cell?, hv1])
    (by simp [hXs]; omega) (by simp [Value.oneCell'])
  simp only [hm1, List.length_cons, List.length_nil, Nat.zero_add, Nat.reduceAdd] at hc1
  rw [← hY] at hc1
  have hu2 : Upd W1 w.heap.size (W1.setRow w.heap.size Y.toArray) := Upd.setRow _ _ _
  have hg2 : (W1.setRow w.heap.size Y.toArray).drew.heap[w.heap.size]? = some (.cells Y.toArray 91 (0, 0)) := setRow_heap W1 w.heap.size X _ 91 _ hg1
  have hx2 : Ext w (W1.setRow w.heap.size Y.toArray) := Upd.ext hx1 hu2 (Nat.le_refl _)
  have hown2 := ownsRow_ext hown hx2.drew
  generalize W1.setRow w.heap.size Y.toArray = W2 at *
  have hm2 : Nat.min (L.length - i) (L.length + 1 - (i + 1)) = L.length - i := by simp only [Nat.min_def]; split <;> omega
  have hdl : (flatC (L.drop i)).length = (L.length - i) * 2 := by rw [flatC_length, List.length_drop]
  have hc2 := run_copy_k (P := Try.prog) W2.drew 89 89 3 91 2 w.heap.size ((i + 1) * 2) (L.length + 1 - (i + 1)) (G - (i + 1)) ⟨g, i * 2, none⟩ (L.length - i) (L.length - i) Y.toArray 91 (flatC (L.drop i)) Try.underlying89 sizeC hg2 (by rw [hm2, hdl])
    (fun j u hj => by
      rw [Go.WideShapes.add_plain]
      have hjl := (List.getElem?_eq_some_iff.1 hj).1
      rw [hdl] at hjl
      rw [← flatC_drop, List.getElem?_drop] at hj
      exact (hown2.cellAt (i * 2 + j) (by omega)).trans hj)
    (by simp only [List.size_toArray, hYl, hXl, hdl]; omega) (fun v hv => flatC_cells _ v hv)
  simp only [hm2] at hc2
  rw [hR] at hc2
  have hfin : (W2.drew.setRow w.heap.size (flatC (L.take i ++ c :: L.drop i) ++ R).toArray).ownsRow base 91 2 (.slice (some ⟨w.heap.size, 0, none⟩) (L.length + 1) G) (L.length + 1) (flatC (L.take i ++ c :: L.drop i)) := by
    have hl : (flatC (L.take i ++ c :: L.drop i)).length = (L.length + 1) * 2 := by
      rw [flatC_length]
      simp only [List.length_append, List.length_take, List.length_cons, List.length_drop]
      omega
    refine ⟨hl, .inr ⟨w.heap.size, G, _, rfl, hbase, setRow_heap _ _ _ _ 91 _ hg2, hG1, by simpa only [maxLen] using hG2, ?_, ?_⟩⟩
    · simp only [List.size_toArray, hRl, hXl]
    · simp only
      rw [← hl]
      exact List.take_left
  have hgr : w.grownBy (W2.drew.setRow w.heap.size (flatC (L.take i ++ c :: L.drop i) ++ R).toArray) (some g) :=
    Upd.of_ext (Upd.ext hx2.drew (Upd.setRow _ _ _) (Nat.le_refl _)) g
  generalize (flatC (L.take i ++ c :: L.drop i) ++ R).toArray = R2 at *
  have q1 : ¬ (i : Int) = L.length := by omega
  have q3 : (L.length : Int) < L.length + 1 := by omega
  have q4 : (i : Int) + 1 ≤ L.length + 1 := by omega
  have q5 : ((L.length : Int) + 1).toNat = L.length + 1 := by omega
  have q6 : ((i : Int) + 1).toNat = i + 1 := by omega
  have q7 : ¬ G = i + 1 := by omega
  have q8 : ¬ G = i := by omega
  have q9 : (i : Int) ≤ L.length + 1 := by omega
  have q10 : (i : Int) ≤ L.length := by omega
  have q11 : (0 : Int) ≤ (L.length : Int) + 1 := by omega
  have q12 : (0 : Int) ≤ (i : Int) + 1 := by omega
  have q14 : ¬ L.length = i := by omega
  have hkk : (L.length : Int) + 1 - (i : Int) = ((L.length + 1 - i : Nat) : Int) := by omega
  rw [← hkk] at hap
  have q13 : IntKind.i64.wrap ((i : Int) + 1) = (i : Int) + 1 := IntWalk.i64_in _ ⟨by omega, by omega⟩
  clear hR hY hXs hXt hXl hYl hRl hm1 hm2 hdl hown hown1 hown2 hg1 hg2 hv1 hv hx1 hx2 hu2 hkk hik hti hcell hgl hvl hbase hroom
  generalize hn : L.length = n at *
  go_enter Try.func69, Try.ntmps69
  go_wp2_with (first
    | (at_builtin; refine Lib.wpList_append_run _ rfl _ _ _ _ rfl _ _ rfl rfl _ _ hap ?_)
    | (at_builtin; refine wpList_copy_at rfl _ _ 89 89 rfl _ _ rfl rfl hc1 ?_))
  go_region_law (refine step_copy_at rfl _ _ 89 89 rfl (.slice (some ⟨w.heap.size, (i + 1) * 2, none⟩) (n + 1 - (i + 1)) (G - (i + 1))) (.slice (some ⟨g, i * 2, none⟩) (n - i) (n - i)) (by simp [Act.eval, Act.put]) (by simp [Act.eval, Act.put]) hc2 ?_)
  go_wp2
  go_ret
  exact ⟨_, _, rfl, hfin, hgr⟩
end
section
open Go.RowKit
set_option linter.unusedVariables false
set_option maxRecDepth 20000

/-- cells with one more at a place; with one less -/
def insF (f : Nat → Cel) (pos : Nat) (c : Cel) (i : Nat) : Cel := if i < pos then f i else if i = pos then c else f (i - 1)
def delF (f : Nat → Cel) (pos : Nat) (i : Nat) : Cel := if i < pos then f i else f (i + 1)
theorem nthC_ins (l : List Cel) (i : Nat) (c : Cel) (hi : i ≤ l.length) : nthC (l.take i ++ c :: l.drop i) = insF (nthC l) i c := by
  funext j
  unfold nthC insF
  have hl : (l.take i).length = i := by rw [List.length_take]; omega
  simp only [List.getD_eq_getElem?_getD]
  by_cases h1 : j < i
  · rw [if_pos h1, List.getElem?_append_left (by omega), List.getElem?_take, if_pos h1]
  · rw [if_neg h1, List.getElem?_append_right (by omega), hl]
    by_cases h2 : j = i
    · subst h2; simp
    · rw [if_neg h2]
      obtain ⟨d, hd⟩ : ∃ d, j = i + d + 1 := ⟨j - i - 1, by omega⟩
      subst hd
      rw [show i + d + 1 - i = d + 1 by omega, List.getElem?_cons_succ, List.getElem?_drop]
      rfl
theorem nthC_del (l : List Cel) (i : Nat) : nthC (l.eraseIdx i) = delF (nthC l) i := by
  funext j
  unfold nthC delF
  simp only [List.getD_eq_getElem?_getD, List.getElem?_eraseIdx]
  split <;> rfl

theorem count_le {f : Nat → Cel} {n : Nat} (hg : ¬ AnyBad f n) : n ≤ 200 := by
  have h : ∀ i, i < n → (i : Int) + 1 ≤ (f i).1 := by
    intro i
    induction i with
    | zero => intro hi; have := good_at hg 0 hi; omega
    | succ i ih =>
      intro hi
      have h1 := ih (by omega)
      have h2 := line_lt hg i (i + 1) (by omega) hi
      omega
  rcases Nat.eq_zero_or_pos n with h0 | h0
  · omega
  · have h1 := h (n - 1) (by omega)
    have h2 := good_at hg (n - 1) (by omega)
    omega
theorem ins_good {n : Nat} {f : Nat → Cel} (hg : ¬ AnyBad f n) {x : Int} {pos : Nat} (hp : PosI n f x pos) (hx : 1 ≤ x ∧ x ≤ 200) (hm : ¬ (pos < n ∧ (f pos).1 = x)) (s : ByteArray) (hs : 0 < s.size) : ¬ AnyBad (insF f pos (x, s)) (n + 1) := by
  rintro ⟨i, hi, hb⟩
  have hle := hp.le
  unfold BadF insF at hb
  by_cases h1 : i < pos
  · have g := good_at hg i (by omega)
    simp only [h1, if_true] at hb
    rcases hb with h | h | ⟨h, h'⟩ | h
    · omega
    · omega
    · rw [if_pos (by omega)] at h'
      have := line_lt hg (i - 1) i (by omega) (by omega); omega
    · omega
  · simp only [h1, if_false] at hb
    by_cases h2 : i = pos
    · subst h2
      simp only [if_true] at hb
      rcases hb with h | h | ⟨h, h'⟩ | h
      · omega
      · omega
      · rw [if_pos (by omega)] at h'
        have := hp.below (i - 1) (by omega); omega
      · omega
    · simp only [h2, if_false] at hb
      have g := good_at hg (i - 1) (by omega)
      rcases hb with h | h | ⟨h, h'⟩ | h
      · omega
      · omega
      · by_cases h3 : i - 1 = pos
        · rw [if_neg (by omega), if_pos h3] at h'
          have := hp.above (i - 1) (by omega) (by omega)
          rw [h3] at h' this
          simp only at h'
          omega
        · rw [if_neg (by omega), if_neg h3] at h'
          have := line_lt hg (i - 1 - 1) (i - 1) (by omega) (by omega); omega
      · omega
theorem del_good {n : Nat} {f : Nat → Cel} (hg : ¬ AnyBad f n) (pos : Nat) (hp : pos < n) : ¬ AnyBad (delF f pos) (n - 1) := by
  rintro ⟨i, hi, hb⟩
  unfold BadF delF at hb
  by_cases h1 : i < pos
  · have g := good_at hg i (by omega)
    simp only [h1, if_true] at hb
    rcases hb with h | h | ⟨h, h'⟩ | h
    · omega
    · omega
    · rw [if_pos (by omega)] at h'
      have := line_lt hg (i - 1) i (by omega) (by omega); omega
    · omega
  · simp only [h1, if_false] at hb
    have g := good_at hg (i + 1) (by omega)
    rcases hb with h | h | ⟨h, h'⟩ | h
    · omega
    · omega
    · split at h'
      · have := line_lt hg (i - 1) (i + 1) (by omega) (by omega); omega
      · have := line_lt hg (i - 1 + 1) (i + 1) (by omega) (by omega); omega
    · omega

theorem insert_any (L : List Cel) (v : Value) (base i : Nat) (c : Cel) (vb : Nat) (w : World) (hL : L.length ≤ 200) (hi : i ≤ L.length) (hbase : base ≤ w.heap.size) (hown : w.ownsRow base 91 2 v L.length (flatC L))
    (hv : w.heap[vb]? = some (.cells #[.int .i64 c.1, .string c.2] 91 (0, 0))) (hne : ∀ g, v.ownBlock = some g → vb ≠ g) :
    Calls Try.prog 69 #[v, .int .i64 i, .slice (some ⟨vb, 0, none⟩) 1 1] w fun e w' =>
      ∃ v', e = .returned v' ∧ w'.ownsRow base 91 2 v' (L.length + 1) (flatC (L.take i ++ c :: L.drop i)) ∧ w.grownBy w' v.ownBlock := by
  rcases Nat.lt_or_ge i L.length with hlt | hge
  · rcases id hown.2 with ⟨_, h0⟩ | ⟨g, cap, cur, rfl, _⟩
    · omega
    · by_cases hroom : L.length + 1 ≤ cap
      · exact (insert_in L g cap base i c vb w hL hlt hroom hown hv (hne g rfl)).mono fun e w' ⟨he, ho, hg⟩ => ⟨_, he, ho, hg⟩
      · exact (insert_new L g cap base i c vb w hL hlt hroom hbase hown hv).mono fun e w' ⟨h, G, he, ho, hg⟩ => ⟨_, he, ho, hg⟩
  · obtain rfl : i = L.length := by omega
    rw [List.take_length, List.drop_length]
    exact insert_end L v base c vb w hL hbase hown hv

theorem put_new (p : ByteArray) (x : Int) (s : ByteArray) (w : World) (hv : ValidR p) (hs : 0 < s.size) (hs2 : s.size ≤ 140737488355328) (hx : 1 ≤ x ∧ x ≤ 200) (pos : Nat) (hp : PosI (cnt p) (cel p) x pos) (he : ¬ (pos < cnt p ∧ (cel p pos).1 = x)) :
    Calls Try.prog 58 #[.string p, .int .i64 x, .string s] w fun e w' => e = .returned (.tuple #[.string (filledRes p.size (cnt p + 1) (insF (cel p) pos (x, s))).1, .int .i64 (filledRes p.size (cnt p + 1) (insF (cel p) pos (x, s))).2]) ∧ Ext w w' := by
  obtain ⟨z1, z2⟩ := sizes_of hv
  have hG := cel_good hv
  have hn := cnt_le hv
  have hS := cel_size hv
  have hlb : lineB x = true := by simp [lineB]; omega
  have hA := fun W => asked_ok p x W hv (by omega) (by omega)
  rw [hlb, if_pos rfl] at hA
  have hsb := hv.1.1
  have d3 : s.toList.isEmpty = false := by
    have : s.toList ≠ [] := by rw [ne_eq, toList_nil]; omega
    simpa using this
  have hC := fun W => cellsOwn_any p W hv
  have hG2 := ins_good hG hp hx he s hs
  have hn2 := count_le hG2
  have hfil : ∀ A cap W, SlC W A (cnt p + 1) (insF (cel p) pos (x, s)) → Calls Try.prog 47 #[.int .i64 p.size, .slice A (cnt p + 1) cap] W fun e w' => e = .returned (.tuple #[.string (filledRes p.size (cnt p + 1) (insF (cel p) pos (x, s))).1, .int .i64 (filledRes p.size (cnt p + 1) (insF (cel p) pos (x, s))).2]) ∧ Ext W w' := fun A cap W h =>
    filled_any p.size A cap (cnt p + 1) _ W hn2 h hG2 (fun i hi => by unfold insF; split; exact hS i (by have := hp.le; omega); split; exact hs2; exact hS (i - 1) (by omega)) hsb
  have hfind := fun A cap W h => find_any A cap (cnt p) (cel p) x W hn h hG hx pos hp
  rw [decide_eq_false he] at hfind
  have hlen : (usedL p (twoF p 0)).length = cnt p := rfl
  have hle := hp.le
  go_enter Try.func58, Try.ntmps58
  go_wp2_with (first
    | (go_at_call 51; refine (hA _).mono ?_; rintro e w1 ⟨rfl, hx1⟩)
    | (go_at_call 50; refine (hC _).mono ?_; rintro e w2 ⟨v, rfl, hown, hx2⟩))
  obtain ⟨A, cap, rfl, hsl⟩ := slC_of_row hown
  have hb : ∀ g, (Value.slice A (usedL p (twoF p 0)).length cap).ownBlock = some g → g < w2.heap.size := fun g hg => (hown.lt g hg).2
  go_wp2_with (go_at_call 52; refine (hfind A cap _ hsl).mono ?_; rintro e w3 ⟨rfl, hx3⟩)
  have hw3 : w2.heap.size ≤ w3.heap.size := hx3.size
  have hz13 : w1.heap.size ≤ w3.heap.size := Nat.le_trans hx2.size hw3
  go_wp2_with (first
    | (go_at_call 69
       refine (insert_any (usedL p (twoF p 0)) (.slice A (usedL p (twoF p 0)).length cap) w1.heap.size pos (x, s) w3.heap.size _ (by omega) (by omega) (by simp; omega) (ownsRow_ext hown (hx3.alloc _)) (World.alloc_heap_new _ _) (fun g hg => by have := hb g hg; omega)).mono ?_
       rintro e w5 ⟨v', rfl, hown5, hgr5⟩)
    | (go_at_call 47
       have hl5 : ((usedL p (twoF p 0)).take pos ++ (x, s) :: (usedL p (twoF p 0)).drop pos).length = (usedL p (twoF p 0)).length + 1 := by simp; omega
       rw [← hl5] at hown5
       obtain ⟨A5, cap5, rfl, hs5⟩ := slC_of_row hown5
       rw [nthC_ins _ _ _ (by omega), hl5] at hs5
       rw [hl5]
       refine (hfil A5 cap5 _ hs5).mono ?_
       rintro e w6 ⟨rfl, hx6⟩))
  go_ret2
  have hx5 : Ext w w5 := Below.grown (((hx1.trans hx2).trans hx3).alloc (.cells #[.int .i64 x, .string s] 91)) hgr5 ((((hx1.trans hx2).trans hx3).alloc _).size) (fun k hk => Nat.le_trans hx1.size (hown.lt k hk).1)
  exact ⟨rfl, hx5.trans hx6⟩

theorem putAt_empty (p : ByteArray) (x : Int) (s : ByteArray) (w : World) (hs : s.toList = []) :
    Calls Try.prog 58 #[.string p, .int .i64 x, .string s] w fun e w' => e = .returned (.tuple #[.string ⟨#[]⟩, .int .i64 1]) ∧ Ext w w' := by
  go_enter Try.func58, Try.ntmps58
  go_wp2
  go_ret2
  exact ⟨rfl, Ext.refl w⟩

section
variable (p : ByteArray) (x : Int) (s : ByteArray) (w : World) (hv : ValidR p) (h0 : -9223372036854775808 ≤ x) (h1 : x ≤ 9223372036854775807) (hl : lineB x = false)
include hv h0 h1 hl
theorem putAt_line (hs : s.toList ≠ []) :
    Calls Try.prog 58 #[.string p, .int .i64 x, .string s] w fun e w' => e = .returned (.tuple #[.string ⟨#[]⟩, .int .i64 7]) ∧ Ext w w' := by
  have hA := fun W => asked_ok p x W hv h0 h1
  rw [hl] at hA
  simp only [Bool.false_eq_true, if_false] at hA
  have d3 : s.toList.isEmpty = false := by simpa using hs
  clear hs
  go_enter Try.func58, Try.ntmps58
  go_wp2_with (go_at_call 51; refine (hA _).mono ?_; rintro e w1 ⟨rfl, hx1⟩)
  go_ret2
  exact ⟨rfl, hx1⟩

theorem get_line :
    Calls Try.prog 43 #[.string p, .int .i64 x] w fun e w' => e = .returned (.tuple #[.string ⟨#[]⟩, .int .i64 7]) ∧ Ext w w' := by
  have hA := fun W => asked_ok p x W hv h0 h1
  rw [hl] at hA
  simp only [Bool.false_eq_true, if_false] at hA
  go_enter Try.func43, Try.ntmps43
  go_wp2_with (go_at_call 51; refine (hA _).mono ?_; rintro e w1 ⟨rfl, hx1⟩)
  go_ret2
  exact ⟨rfl, hx1⟩
theorem drop_line :
    Calls Try.prog 39 #[.string p, .int .i64 x] w fun e w' => e = .returned (.tuple #[.string ⟨#[]⟩, .int .i64 7]) ∧ Ext w w' := by
  have hA := fun W => asked_ok p x W hv h0 h1
  rw [hl] at hA
  simp only [Bool.false_eq_true, if_false] at hA
  go_enter Try.func39, Try.ntmps39
  go_wp2_with (go_at_call 51; refine (hA _).mono ?_; rintro e w1 ⟨rfl, hx1⟩)
  go_ret2
  exact ⟨rfl, hx1⟩
end

section
variable (p : ByteArray) (x : Int) (s : ByteArray) (w : World) (hv : ValidR p) (hx : 1 ≤ x ∧ x ≤ 200) (pos : Nat) (hp : PosI (cnt p) (cel p) x pos)
include hv hx hp
theorem putAt_hit (hs : s.toList ≠ []) (he : pos < cnt p ∧ (cel p pos).1 = x) :
    Calls Try.prog 58 #[.string p, .int .i64 x, .string s] w fun e w' => e = .returned (.tuple #[.string ⟨#[]⟩, .int .i64 6]) ∧ Ext w w' := by
  have hA := fun W => asked_ok p x W hv (by omega) (by omega)
  have hlb : lineB x = true := by simp [lineB]; omega
  rw [hlb, if_pos rfl] at hA
  have d3 : s.toList.isEmpty = false := by simpa using hs
  clear hs
  have hC := fun W => cells_of p W hv
  have hfind := fun A cap W h => find_any A cap (cnt p) (cel p) x W (cnt_le hv) h (cel_good hv) hx pos hp
  rw [decide_eq_true he] at hfind
  go_enter Try.func58, Try.ntmps58
  go_wp2_with (first
    | (go_at_call 51; refine (hA _).mono ?_; rintro e w1 ⟨rfl, hx1⟩)
    | (go_at_call 50; refine (hC _).mono ?_; rintro e w2 ⟨A, cap, rfl, hsl, hx2⟩)
    | (go_at_call 52; refine (hfind A cap _ hsl).mono ?_; rintro e w3 ⟨rfl, hx3⟩))
  go_ret2
  exact ⟨rfl, (hx1.trans hx2).trans hx3⟩

theorem get_miss (he : ¬ (pos < cnt p ∧ (cel p pos).1 = x)) :
    Calls Try.prog 43 #[.string p, .int .i64 x] w fun e w' => e = .returned (.tuple #[.string ⟨#[]⟩, .int .i64 8]) ∧ Ext w w' := by
  have hA := fun W => asked_ok p x W hv (by omega) (by omega)
  have hlb : lineB x = true := by simp [lineB]; omega
  rw [hlb, if_pos rfl] at hA
  have hC := fun W => cells_of p W hv
  have hfind := fun A cap W h => find_any A cap (cnt p) (cel p) x W (cnt_le hv) h (cel_good hv) hx pos hp
  rw [decide_eq_false he] at hfind
  go_enter Try.func43, Try.ntmps43
  go_wp2_with (first
    | (go_at_call 51; refine (hA _).mono ?_; rintro e w1 ⟨rfl, hx1⟩)
    | (go_at_call 50; refine (hC _).mono ?_; rintro e w2 ⟨A, cap, rfl, hsl, hx2⟩)
    | (go_at_call 52; refine (hfind A cap _ hsl).mono ?_; rintro e w3 ⟨rfl, hx3⟩))
  go_ret2
  exact ⟨rfl, (hx1.trans hx2).trans hx3⟩
theorem get_hit (he : pos < cnt p ∧ (cel p pos).1 = x) :
    Calls Try.prog 43 #[.string p, .int .i64 x] w fun e w' => e = .returned (.tuple #[.string (cel p pos).2, .int .i64 0]) ∧ Ext w w' := by
  have hA := fun W => asked_ok p x W hv (by omega) (by omega)
  have hlb : lineB x = true := by simp [lineB]; omega
  rw [hlb, if_pos rfl] at hA
  have hC := fun W => cells_of p W hv
  have hfind := fun A cap W h => find_any A cap (cnt p) (cel p) x W (cnt_le hv) h (cel_good hv) hx pos hp
  rw [decide_eq_true he] at hfind
  have hlt := he.1
  have q1 : (pos : Int) < cnt p := by omega
  clear he
  go_enter Try.func43, Try.ntmps43
  go_wp2_with (first
    | (go_at_call 51; refine (hA _).mono ?_; rintro e w1 ⟨rfl, hx1⟩)
    | (go_at_call 50; refine (hC _).mono ?_; rintro e w2 ⟨A, cap, rfl, hsl, hx2⟩; obtain ⟨b, off, rfl, g1, g2⟩ := hsl.at_ pos hlt)
    | (go_at_call 52; refine (hfind _ cap _ hsl).mono ?_; rintro e w3 ⟨rfl, hx3⟩; have k2 := hx3.cell g2))
  go_ret2
  exact ⟨rfl, (hx1.trans hx2).trans hx3⟩
theorem drop_miss (he : ¬ (pos < cnt p ∧ (cel p pos).1 = x)) :
    Calls Try.prog 39 #[.string p, .int .i64 x] w fun e w' => e = .returned (.tuple #[.string ⟨#[]⟩, .int .i64 8]) ∧ Ext w w' := by
  have hA := fun W => asked_ok p x W hv (by omega) (by omega)
  have hlb : lineB x = true := by simp [lineB]; omega
  rw [hlb, if_pos rfl] at hA
  have hC := fun W => cells_of p W hv
  have hfind := fun A cap W h => find_any A cap (cnt p) (cel p) x W (cnt_le hv) h (cel_good hv) hx pos hp
  rw [decide_eq_false he] at hfind
  go_enter Try.func39, Try.ntmps39
  go_wp2_with (first
    | (go_at_call 51; refine (hA _).mono ?_; rintro e w1 ⟨rfl, hx1⟩)
    | (go_at_call 50; refine (hC _).mono ?_; rintro e w2 ⟨A, cap, rfl, hsl, hx2⟩)
    | (go_at_call 52; refine (hfind A cap _ hsl).mono ?_; rintro e w3 ⟨rfl, hx3⟩))
  go_ret2
  exact ⟨rfl, (hx1.trans hx2).trans hx3⟩
theorem drop_hit (he : pos < cnt p ∧ (cel p pos).1 = x) :
    Calls Try.prog 39 #[.string p, .int .i64 x] w fun e w' => e = .returned (.tuple #[.string (filledRes p.size (cnt p - 1) (delF (cel p) pos)).1, .int .i64 (filledRes p.size (cnt p - 1) (delF (cel p) pos)).2]) ∧ Ext w w' := by
  have hA := fun W => asked_ok p x W hv (by omega) (by omega)
  have hlb : lineB x = true := by simp [lineB]; omega
  rw [hlb, if_pos rfl] at hA
  have hC := fun W => cellsOwn_any p W hv
  have hn := cnt_le hv
  have hfind := fun A cap W h => find_any A cap (cnt p) (cel p) x W hn h (cel_good hv) hx pos hp
  rw [decide_eq_true he] at hfind
  have hlt := he.1
  have hlen : (usedL p (twoF p 0)).length = cnt p := rfl
  have hG2 := del_good (cel_good hv) pos hlt
  have hS := cel_size hv
  have hsb := hv.1.1
  have hfil : ∀ A cap W, SlC W A (cnt p - 1) (delF (cel p) pos) → Calls Try.prog 47 #[.int .i64 p.size, .slice A (cnt p - 1) cap] W fun e w' => e = .returned (.tuple #[.string (filledRes p.size (cnt p - 1) (delF (cel p) pos)).1, .int .i64 (filledRes p.size (cnt p - 1) (delF (cel p) pos)).2]) ∧ Ext W w' := fun A cap W h =>
    filled_any p.size A cap (cnt p - 1) _ W (by omega) h hG2 (fun i hi => by unfold delF; split; exact hS i (by omega); exact hS (i + 1) (by omega)) hsb
  clear he
  go_enter Try.func39, Try.ntmps39
  go_wp2_with (first
    | (go_at_call 51; refine (hA _).mono ?_; rintro e w1 ⟨rfl, hx1⟩)
    | (go_at_call 50; refine (hC _).mono ?_; rintro e w2 ⟨v, rfl, hown, hx2⟩))
  rcases id hown.2 with ⟨_, h0⟩ | ⟨g, cap, cur, rfl, hgb, _⟩
  · omega
  have hsl : SlC w2 (some ⟨g, 0, none⟩) (cnt p) (cel p) := by
    obtain ⟨A', cap', hv', hs'⟩ := slC_of_row hown
    simp only [Value.slice.injEq] at hv'
    rw [hv'.1]; exact hs'
  go_wp2_with (first
    | (go_at_call 52; refine (hfind _ cap _ hsl).mono ?_; rintro e w3 ⟨rfl, hx3⟩)
    | (go_at_call 53
       refine (delete_any (usedL p (twoF p 0)) g cap w1.heap.size pos _ (by omega) (by omega) (ownsRow_ext hown hx3)).mono ?_
       rintro e w5 ⟨rfl, hown5, hgr5⟩)
    | (go_at_call 47
       have hl5 : ((usedL p (twoF p 0)).eraseIdx pos).length = (usedL p (twoF p 0)).length - 1 := by rw [List.length_eraseIdx, if_pos (by omega)]
       rw [← hl5] at hown5
       obtain ⟨A5, cap5, hv5, hs5⟩ := slC_of_row hown5
       simp only [Value.slice.injEq] at hv5
       rw [nthC_del, hl5, ← hv5.1] at hs5
       refine (hfil _ cap _ hs5).mono ?_
       rintro e w6 ⟨rfl, hx6⟩))
  go_ret2
  have hx5 : Ext w w5 := Below.grown ((hx1.trans hx2).trans hx3) hgr5 (((hx1.trans hx2).trans hx3).size) (fun k hk => by injection hk with hk; have := hx1.size; omega)
  exact ⟨rfl, hx5.trans hx6⟩
end
end
end Go.Proofs.Ytcbainmpikcfjaa
