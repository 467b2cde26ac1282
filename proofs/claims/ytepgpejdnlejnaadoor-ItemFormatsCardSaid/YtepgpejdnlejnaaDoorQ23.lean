/- ItZH (merged by group.py) -/
import Derived.Test.YtepgpejdnlejnaaDoorQ22
namespace Go.Proofs.YtepgpejdnlejnaaDoor
section
open Go.RowKit Go.Maps
set_option linter.unusedVariables false
set_option linter.unusedSimpArgs false
set_option linter.unusedSectionVars false
set_option maxRecDepth 100000
attribute [local go_sem] Oper.semAt_some

theorem wpListIn_app_run {F : Fence} {n : Nat} {P : Program} (w : World) {ops : Array Oper} {rest : List Oper} {o : Oper} {a : Act} {Q : Exit → Act → World → Prop} (hgd : o.guard = none) (s x : Operand) (t : TypeId)
    (ho : o.op = .call { callee := .builtin .append, args := #[s, x], argTypes := #[t, t] }) (vs vx : Value) (hs : a.eval s = vs) (hx : a.eval x = vx)
    (v' : Value) (w' : World) (hr : (Builtin.append_ #[t, t] o.type #[vs, vx]).run P w = .ok v' w') (h : wpListIn F n P ops Q rest (a.put o.dst v') w') : wpListIn F n P ops Q (o :: rest) a w := by
  refine wpListIn_plain hgd fun K hK => ?_
  unfold Oper.wpIn
  refine ⟨by simp [Oper.about, ho, resolve, Target.leads, Sem.run_pure], ?_⟩
  rw [Oper.semAt_plain F _ _ (by rw [ho]; intro c hc'; cases hc')]
  simp [execOp, ho, resolve, invoke, builtin, hs, hx, hr, Result.andThen]
  exact hK _ _ h
theorem intB_text : intB ≠ textB := by decide
/-- the two results stored, and the way out -/
theorem pi_end {w W : World} {u u' : Value} (hx : Ext w W) (b2 : Boxed W w.heap.size 22 u) (b3 : Boxed W (w.heap.size + 1) 43 u') (e : Int) (P : Option Addr) (l c : Nat) (tmps : Array Value) (h2 : tmps.getD 2 undef = .pointer (some ⟨w.heap.size, 0, none⟩)) (h3 : tmps.getD 3 undef = .pointer (some ⟨w.heap.size + 1, 0, none⟩)) :
    (results Tryd.f52 tmps).run Tryd.prog ((W.setCell ⟨w.heap.size, 0, none⟩ (.slice P l c)).setCell ⟨w.heap.size + 1, 0, none⟩ (.int .i64 e)) = .ok (.tuple #[.slice P l c, .int .i64 e]) ((W.setCell ⟨w.heap.size, 0, none⟩ (.slice P l c)).setCell ⟨w.heap.size + 1, 0, none⟩ (.int .i64 e)) := by
  have B2 : Boxed ((W.setCell ⟨w.heap.size, 0, none⟩ (.slice P l c)).setCell ⟨w.heap.size + 1, 0, none⟩ (.int .i64 e)) w.heap.size 22 (.slice P l c) := (Below.heap_setCell _ _ _ _ (by simp)).trans (b2.set _)
  have B3 : Boxed ((W.setCell ⟨w.heap.size, 0, none⟩ (.slice P l c)).setCell ⟨w.heap.size + 1, 0, none⟩ (.int .i64 e)) (w.heap.size + 1) 43 (.int .i64 e) := Boxed.set _ ((Below.heap_setCell _ _ _ _ (by simp)).trans b3)
  exact pfin_any w.heap.size (w.heap.size + 1) _ _ e P l c h2 h3 B2.cell B3.cell
theorem done_end {w W7 : World} {l : List It} {v : Value} (h : IS w w.heap.size l W7) (ho : OwnG It.cells 32 5 W7 (w.heap.size + 8) v l) (hD : W7.heap[w.heap.size + 6]? = some (.deferred (some []))) (e : Int) (P : Option Addr) (n c : Nat) :
    ((W7.setCell ⟨w.heap.size, 0, none⟩ (.slice P n c)).setCell ⟨w.heap.size + 1, 0, none⟩ (.int .i64 e)).heap[w.heap.size + 6]? = some (.deferred (some [])) ∧
    Boxed (((W7.setCell ⟨w.heap.size, 0, none⟩ (.slice P n c)).setCell ⟨w.heap.size + 1, 0, none⟩ (.int .i64 e)).putObj (w.heap.size + 6) (.deferred none)) w.heap.size 22 (.slice P n c) ∧
    Boxed (((W7.setCell ⟨w.heap.size, 0, none⟩ (.slice P n c)).setCell ⟨w.heap.size + 1, 0, none⟩ (.int .i64 e)).putObj (w.heap.size + 6) (.deferred none)) (w.heap.size + 1) 43 (.int .i64 e) ∧
    Ext w (((W7.setCell ⟨w.heap.size, 0, none⟩ (.slice P n c)).setCell ⟨w.heap.size + 1, 0, none⟩ (.int .i64 e)).putObj (w.heap.size + 6) (.deferred none)) ∧
    OwnG It.cells 32 5 (((W7.setCell ⟨w.heap.size, 0, none⟩ (.slice P n c)).setCell ⟨w.heap.size + 1, 0, none⟩ (.int .i64 e)).putObj (w.heap.size + 6) (.deferred none)) (w.heap.size + 8) v l := by
  have B2 : Boxed ((W7.setCell ⟨w.heap.size, 0, none⟩ (.slice P n c)).setCell ⟨w.heap.size + 1, 0, none⟩ (.int .i64 e)) w.heap.size 22 (.slice P n c) := (Below.heap_setCell _ _ _ _ (by simp)).trans (h.r2.set _)
  have B3 : Boxed ((W7.setCell ⟨w.heap.size, 0, none⟩ (.slice P n c)).setCell ⟨w.heap.size + 1, 0, none⟩ (.int .i64 e)) (w.heap.size + 1) 43 (.int .i64 e) := Boxed.set _ ((Below.heap_setCell _ _ _ _ (by simp)).trans h.r3)
  exact ⟨(Below.heap_setCell _ _ _ _ (by simp)).trans ((Below.heap_setCell _ _ _ _ (by simp)).trans hD), (World.putObj_heap_other (by omega)).trans B2, (World.putObj_heap_other (by omega)).trans B3,
    Upd.ext ((h.x.setCell (by simp) _).setCell (by simp) _) (grownBy_putObj' _ _ _) (by omega), ((ho.low (Upd.setCell _ _ _ _) (by omega)).low (Upd.setCell _ _ _ _) (by omega)).low (grownBy_putObj' _ _ _) (by omega)⟩
set_option maxHeartbeats 8000000 in
theorem parseitems_any (s : ByteArray) (hs : s.size ≤ 1000000) (w : World) (hL : LibW w) :
    Calls Tryd.prog 52 #[.string s] w (PIPost s w) := by
  have hel : s.data.toList.length = s.size := by simp
  refine calls_of_wpAt Tryd.func52 rfl ?_
  simp only [Tryd.ntmps52, List.size_toArray, List.length_cons, List.length_nil, Nat.reduceAdd, Nat.reduceSub, Array.replicate_succ, Array.replicate_zero, List.push_toArray, List.append_toArray, List.nil_append, List.cons_append]
  refine wpAt_seq_k (fun K hK => ?_)
  go_wp2
  obtain ⟨W3, hW3⟩ : ∃ W3, (w.alloc (.cells #[.slice none 0 0] 22)).alloc (.cells #[.int .i64 0] 43) = W3 := ⟨_, rfl⟩
  have b2 : Boxed W3 w.heap.size 22 (.slice none 0 0) := by rw [← hW3]; exact (Boxed.new _ _ _).alloc _
  have b3 : Boxed W3 (w.heap.size + 1) 43 (.int .i64 0) := by
    rw [← hW3]
    have := Boxed.new (w.alloc (.cells #[.slice none 0 0] 22)) 43 (.int .i64 0)
    rw [World.size_alloc] at this
    exact this
  have hx3 : Ext w W3 := by rw [← hW3]; exact ((Ext.refl _).alloc _).alloc _
  have hz3 : W3.heap.size = w.heap.size + 2 := by rw [← hW3]; simp only [World.size_alloc]
  try rw [hW3]
  clear hW3
  refine wpAt_seq_k (fun K hK => ?_)
  by_cases h20 : 20000 < s.size
  · have c1 : (20000 : Int) < s.size := by omega
    have HP := Lib.hid (show parsePI itemsP s.data.toList = ([], 3) from by unfold parsePI; rw [if_pos (by omega)])
    clear hel
    have k2 := b2.cell
    have k3 := b3.cell
    have f2 := b2.frozen
    have f3 := b3.frozen
    go_wp2
    exact ⟨_, pi_end hx3 b2 b3 3 none 0 0 _ rfl rfl, (hx3.setCell (by simp) _).setCell (by simp) _, none, 0, [], 3, rfl, SlG.nil _ _, HP.out⟩
  · have c1 : ¬ (20000 : Int) < s.size := by omega
    have HPR := Lib.hid (show ∀ z, readO stepI (cutS s.data.toList) = z → parsePI itemsP s.data.toList = resP s.data.toList z from fun z hz => parsePI_res (by omega) hz)
    go_wp2
    refine wpAt_seq_k (fun K hK => ?_)
    go_wp2
    obtain ⟨W4, hW4⟩ : ∃ W4, W3.alloc (.cells #[.slice none 0 0] 22) = W4 := ⟨_, rfl⟩
    have b4 : Boxed W4 (w.heap.size + 2) 22 (.slice none 0 0) := by
      rw [← hW4]
      have := Boxed.new W3 22 (.slice none 0 0)
      rw [hz3] at this
      exact this
    have hx4 : Ext W3 W4 := by rw [← hW4]; exact (Ext.refl _).alloc _
    have hz4 : W4.heap.size = w.heap.size + 3 := by rw [← hW4, World.size_alloc, hz3]
    replace b2 := hx4.heap b2
    replace b3 := hx4.heap b3
    have hx4 := hx3.trans hx4
    try rw [hz3]
    try rw [hW4]
    clear hW4 hx3 hz3
    refine wpAt_seq ?_
    refine wpAt_seq_k (fun K hK => ?_)
    go_wp2_with (go_at_call 84; refine (splitseq_any s _).mono ?_; rintro e w4 ⟨rfl, rfl⟩)
    obtain ⟨W6, hW6⟩ : ∃ W6, ((W4.alloc (.cells #[.string s] 9)).alloc (.cells #[.string ⟨#[59, 32]⟩] 9)).alloc (.cells #[.int .i64 0] 3) = W6 := ⟨_, rfl⟩
    have hx46 : Ext W4 W6 := by rw [← hW6]; exact (((Ext.refl _).alloc _).alloc _).alloc _
    have b6 : Boxed W6 (w.heap.size + 3) 9 (.string s) := by
      rw [← hW6]
      have := Boxed.new W4 9 (.string s)
      rw [hz4] at this
      exact (this.alloc _).alloc _
    have b7 : Boxed W6 (w.heap.size + 4) 9 (.string ⟨#[59, 32]⟩) := by
      rw [← hW6]
      have := Boxed.new (W4.alloc (.cells #[.string s] 9)) 9 (.string ⟨#[59, 32]⟩)
      rw [World.size_alloc, hz4] at this
      exact this.alloc _
    have b8 : Boxed W6 (w.heap.size + 5) 3 (.int .i64 0) := by
      rw [← hW6]
      have := Boxed.new ((W4.alloc (.cells #[.string s] 9)).alloc (.cells #[.string ⟨#[59, 32]⟩] 9)) 3 (.int .i64 0)
      rw [World.size_alloc, World.size_alloc, hz4] at this
      exact this
    have hz6 : W6.heap.size = w.heap.size + 6 := by rw [← hW6, World.size_alloc, World.size_alloc, World.size_alloc, hz4]
    have hs0 : IS w w.heap.size [] W6 := ⟨⟨_, hx46.heap b4, OwnG.nil _ _ _ _ _⟩, hx46.heap b2, hx46.heap b3, b7, b8, hx4.trans hx46⟩
    rw [hW6]
    clear hW6 hx46 hz4 hx4 b2 b3 b4 b7 b8
    have hrd0 := RdRel.start stepI (cutS s.data.toList)
    have hmem : ∀ p ∈ cutS s.data.toList, p.length ≤ 20000 := fun p hp => by
      have := cutS_mem s.data.toList p hp
      omega
    have hpl : (cutS s.data.toList).length ≤ 20001 := by
      have := cutS_len _ s.data.toList (Nat.le_refl _)
      omega
    refine wpAt_block ?_
    have HZ := Lib.hid hz6
    have HL := Lib.hid hL
    refine wpAt_rangeFuncK (hf := Tryd.func52) (gf := 118) (lb := #[.pointer (some ⟨w.heap.size + 3 + 1, 0, none⟩), .pointer (some ⟨w.heap.size + 3, 0, none⟩), .pointer (some ⟨w.heap.size + 3 + 2, 0, none⟩)]) rfl (enters_of Tryd.func118 (by kernel_rfl) rfl)
      (splitseq_seq s (w.heap.size + 3) hs) (by omega) (fun _ => rfl)
      (fun i W => (∃ l, RdRel stepI (cutS s.data.toList) l i ∧ IS w w.heap.size l W) ∧ Boxed W (w.heap.size + 3) 9 (leftV s i))
      (fun i W => (∃ l, RdRel stepI (cutS s.data.toList) l i ∧ IS w w.heap.size l W) ∧ Boxed W (w.heap.size + 3) 9 (leftV s (i + 1)))
      (fun _ c W => c = .ret ∧ parsePI itemsP s.data.toList = ([], 2) ∧ Boxed W w.heap.size 22 (.slice none 0 0) ∧ Boxed W (w.heap.size + 1) 43 (.int .i64 2) ∧ Ext w W)
      (fun _ _ _ => False)
      (fun i A B ⟨⟨l, h0, h1⟩, h2⟩ hx => ⟨⟨l, h0, h1.ext hx⟩, hx.heap h2⟩)
      (fun i A B ⟨⟨l, h0, h1⟩, h2⟩ hx => ⟨⟨l, h0, h1.ext hx⟩, hx.heap h2⟩)
      (fun _ _ A B ⟨h0, h1, h2, h3, h4⟩ hx => ⟨h0, h1, hx.heap h2, hx.heap h3, h4.trans hx⟩)
      (fun i A r r' ⟨⟨l, h0, h1⟩, h2⟩ hl => ⟨⟨l, h0, h1.upd (grownBy_putObj' _ _ _) (by omega) (by omega)⟩, (World.putObj_heap_other (by omega)).trans h2⟩)
      (fun _ _ A r r' ⟨h0, h1, h2, h3, h4⟩ _ => ⟨h0, h1, (World.putObj_heap_other (by omega)).trans h2, (World.putObj_heap_other (by omega)).trans h3, Upd.ext h4 (grownBy_putObj' _ _ _) (by omega)⟩)
      (fun i A h => h.2)
      (fun i A hi ⟨⟨l, h0, h1⟩, h2⟩ => ⟨⟨l, h0, h1.upd (Upd.setCell _ _ _ _) (by omega) (by omega)⟩, h2.set _⟩)
      (fun i A ⟨⟨l, h0, h1⟩, h2⟩ => h1.sep HL.out)
      (fun i A ⟨⟨l, h0, h1⟩, h2⟩ => ⟨h1.sep HL.out, h2⟩)
      ⟨⟨[], hrd0, hs0⟩, b6⟩ ?round ?done ?stop (fun _ _ _ _ h _ => h.elim)
    case stop =>
      rintro i c W hi ⟨rfl, h1, h2, h3, h4⟩ hD
      have hWz := h4.size
      rw [HZ.out] at hD
      go_wp2
      refine ⟨by simp, .inl ⟨_, _, rfl, run_takeDeferred (by rw [HZ.out]; exact hD), ?_⟩⟩
      exact ⟨_, pfin_any w.heap.size (w.heap.size + 1) _ _ 2 none 0 0 rfl rfl (Boxed.cell (t := 22) ((World.putObj_heap_other (by omega)).trans h2)) (Boxed.cell (t := 43) ((World.putObj_heap_other (by omega)).trans h3)), Upd.ext h4 (grownBy_putObj' _ _ _) (by omega), none, 0, [], 2, rfl, SlG.nil _ _, h1⟩
    case done =>
      rintro W ⟨⟨l, h0, h1⟩, h2⟩ hD
      rw [HZ.out] at hD
      have hR := HPR.out _ (h0.done rfl)
      obtain ⟨v, a1, a2⟩ := h1.a
      have hll : l.length ≤ 20001 := by have := h0.2.1; omega
      obtain ⟨P, cap, rfl, hsl⟩ := OwnG.slG elemT a2 (by omega)
      have hF := fun W' (hw : Ext W W') => format_any P cap l W' (hsl.ext hw) ((HL.out.ext (h1.x.trans hw)).tab)
      have hEQ := fmtL_P l
      have hWz := h1.x.size
      clear h0 hrd0 hs0
      have HR2 := Lib.hid hR
      have a1c := a1.cell
      refine wpAt_of_wp ?_
      by_cases hm : fmtL l = s.data.toList
      · have HE := Lib.hid (show parsePI itemsP s.data.toList = (l.map toI, 0) from by
          rw [HR2.out]
          show (if fmtI itemsP (l.map toI) ≠ s.data.toList then _ else _) = _
          rw [if_neg (fun h => h (by rw [← hEQ]; exact hm))])
        have e1 : mkB (fmtL l) = s := by rw [hm]; rfl
        rw [e1] at hF
        clear hR hEQ hm e1 hmem hpl hel
        have ht2 : (s.toList != s.toList) = false := by simp
        go_wp2_with (go_at_call 48; refine (hF _ (Ext.refl _)).mono ?_; rintro e W7 ⟨rfl, hx7⟩; have k2 := hx7.cell h1.r2.cell; have k3 := hx7.cell h1.r3.cell; have k4 := hx7.cell a1c; have k2f := Boxed.frozen (show Boxed W7 w.heap.size 22 (.slice none 0 0) from hx7.heap h1.r2); have k3f := Boxed.frozen (show Boxed W7 (w.heap.size + 1) 43 (.int .i64 0) from hx7.heap h1.r3))
        obtain ⟨d1, d2, d3, d4, d5⟩ := done_end (h1.ext hx7) (a2.ext hx7) (hx7.heap hD) 0 P l.length cap
        refine ⟨by simp, .inl ⟨_, _, rfl, run_takeDeferred d1, ?_⟩⟩
        obtain ⟨P9, c9, he, hs9⟩ := OwnG.slG elemT d5 (by omega)
        injection he with he1 he2 he3
        subst he1 he3
        exact ⟨_, pfin_any w.heap.size (w.heap.size + 1) _ _ 0 P l.length cap rfl rfl d2.cell d3.cell, d4, P, cap, l, 0, rfl, hs9, HE.out⟩
      · have HE := Lib.hid (show parsePI itemsP s.data.toList = ([], 2) from by
          rw [HR2.out]
          show (if fmtI itemsP (l.map toI) ≠ s.data.toList then _ else _) = _
          rw [if_pos (fun h => hm (by rw [hEQ]; exact h))])
        have ht4 : ¬ (mkB (fmtL l)).toList = s.toList := by rw [Lib.toList_data, Lib.toList_data, mkB_toList]; exact hm
        have ht2 : ((mkB (fmtL l)).toList != s.toList) = true := by simpa using ht4
        have ht3 : ((mkB (fmtL l)).toList == s.toList) = false := by simpa using ht4
        have ht5 : ¬ mkB (fmtL l) = s := fun e => ht4 (by rw [e])
        have ht6 : decide ((mkB (fmtL l)).toList = s.toList) = false := decide_eq_false ht4
        clear hR hEQ hm hmem hpl hel
        generalize mkB (fmtL l) = FF at *
        go_wp2_with (go_at_call 48; refine (hF _ (Ext.refl _)).mono ?_; rintro e W7 ⟨rfl, hx7⟩; have k2 := hx7.cell h1.r2.cell; have k3 := hx7.cell h1.r3.cell; have k4 := hx7.cell a1c; have k2f := Boxed.frozen (show Boxed W7 w.heap.size 22 (.slice none 0 0) from hx7.heap h1.r2); have k3f := Boxed.frozen (show Boxed W7 (w.heap.size + 1) 43 (.int .i64 0) from hx7.heap h1.r3))
        obtain ⟨d1, d2, d3, d4, d5⟩ := done_end (h1.ext hx7) (a2.ext hx7) (hx7.heap hD) 2 none 0 0
        refine ⟨by simp, .inl ⟨_, _, rfl, run_takeDeferred d1, ?_⟩⟩
        exact ⟨_, pfin_any w.heap.size (w.heap.size + 1) _ _ 2 none 0 0 rfl rfl d2.cell d3.cell, d4, none, 0, [], 2, rfl, SlG.nil _ _, HE.out⟩
    case round =>
      rintro i W r ⟨⟨l, h0, h1⟩, h2⟩ hW hD hLp hi
      gi_wp2
      refine ⟨trivial, trivial, ?_⟩
      rintro W5 r' hW5
      rw [HZ.out] at hW hD hLp hW5
      have hL5 : W5.heap[w.heap.size + 6 + 1]? = some (.loop r') := by rw [hW5]; exact World.putObj_heap_same (by omega)
      have hD5 : W5.heap[w.heap.size + 6]? = some (.deferred (some [])) := by rw [hW5, World.putObj_heap_other (by omega)]; exact hD
      have hs5 : W5.heap.size = W.heap.size := by rw [hW5]; simp [World.putObj]
      replace h1 : IS w w.heap.size l W5 := by rw [hW5]; exact h1.upd (grownBy_putObj' _ _ _) (by omega) (by omega)
      replace h2 : Boxed W5 (w.heap.size + 3) 9 (leftV s (i + 1)) := by rw [hW5]; exact (World.putObj_heap_other (by omega)).trans h2
      clear hW5 hD hLp
      simp only [partV]
      obtain ⟨p, hp⟩ : ∃ p, (cutS s.data.toList)[i]? = some p := ⟨(cutS s.data.toList)[i], List.getElem?_eq_getElem hi⟩
      have hpd : (cutS s.data.toList).getD i [] = p := by rw [List.getD_eq_getElem?_getD, hp]; rfl
      have hpz := hmem p (List.mem_of_getElem? hp)
      rw [hpd]
      have hSp := fun W hW => split_any (mkB p) 32 (by rw [mkB_size]; omega) W hW
      have hq1 := cutB_size 32 (mkB p)
      have hq2 := cutB_pos 32 (mkB p)
      have hsz : ∀ y ∈ cutB 32 (mkB p), y.size ≤ 20000 := fun y hy => by
        obtain ⟨q, hq, rfl⟩ := List.mem_map.1 hy
        have := cutC_mem 32 _ q hq
        rw [mkB_size]
        rw [mkB_toList] at this
        omega
      have hSB := stepI_B (mkB p)
      rw [mkB_toList] at hSB
      have HBAD := Lib.hid (show stepB (cutB 32 (mkB p)) = none → parsePI itemsP s.data.toList = ([], 2) from fun hb => HPR.out _ (h0.bad hp (by rw [hSB, hb]; rfl)))
      have HGO := Lib.hid (show ∀ x, stepB (cutB 32 (mkB p)) = some x → RdRel stepI (cutS s.data.toList) (l ++ [x]) (i + 1) from fun x hb => h0.more hp (by rw [hSB, hb]; rfl))
      have hll : l.length ≤ 20001 := by have := h0.1; have := h0.2.1; omega
      rw [mkB_size] at hq1
      have hpw : (cutB 32 (mkB p)).length ≤ 20001 := by omega
      clear hSB hq1 hpz hpd hp h0
      generalize cutB 32 (mkB p) = pw at *
      generalize mkB p = X at *
      have HS := Lib.hid h1
      have HB2 := Lib.hid h2
      have HM := Lib.hid hmem
      have HPL := Lib.hid hpl
      have HI := Lib.hid hi
      obtain ⟨v, a1, a2⟩ := h1.a
      have HA2 := Lib.hid a2
      clear h1 h2 hmem hpl hrd0 hs0 hel hi a2
      by_cases h3 : pw.length < 3
      · have HR := Lib.hid (HBAD.out (by unfold stepB; rw [if_pos h3]))
        have c3 : (pw.length : Int) < 3 := by omega
        clear HBAD HGO a1
        gi_wp2_with (refine ⟨trivial, rfl, ?_⟩; gi_at_call 85; refine (callsIn_wide.2 (hSp _ (HL.out.ext HS.out.x))).mono ?_; rintro e w7 ⟨v7, rfl, ho7, hx7⟩; obtain ⟨g, cw, rfl, hg1, hg2, hg3, hg4⟩ := OwnG.tight ho7 (by omega); have k2 := hx7.cell HS.out.r2.cell; have f2 := Boxed.frozen (show Boxed w7 w.heap.size 22 (.slice none 0 0) from hx7.heap HS.out.r2); have k3 := hx7.cell HS.out.r3.cell; have f3 := Boxed.frozen (show Boxed w7 (w.heap.size + 1) 43 (.int .i64 0) from hx7.heap HS.out.r3))
        have hz7 := hx7.size
        have hlow : ∀ q o, q ≠ w.heap.size → q ≠ w.heap.size + 1 → W5.heap[q]? = some o → ((w7.setCell ⟨w.heap.size, 0, none⟩ (.slice none 0 0)).setCell ⟨w.heap.size + 1, 0, none⟩ (.int .i64 2)).heap[q]? = some o := fun q o e1 e2 ho => (Below.heap_setCell _ _ _ _ e2).trans ((Below.heap_setCell _ _ _ _ e1).trans (hx7.heap ho))
        have hD5' : W5.heap[W6.heap.size]? = some (.deferred (some [])) := by rw [HZ.out]; exact hD5
        have hL5' : W5.heap[W6.heap.size + 1]? = some (.loop r') := by rw [HZ.out]; exact hL5
        have B2 : Boxed ((w7.setCell ⟨w.heap.size, 0, none⟩ (.slice none 0 0)).setCell ⟨w.heap.size + 1, 0, none⟩ (.int .i64 2)) w.heap.size 22 (.slice none 0 0) := (Below.heap_setCell _ _ _ _ (by simp)).trans (Boxed.set _ (hx7.heap HS.out.r2))
        have B3 : Boxed ((w7.setCell ⟨w.heap.size, 0, none⟩ (.slice none 0 0)).setCell ⟨w.heap.size + 1, 0, none⟩ (.int .i64 2)) (w.heap.size + 1) 43 (.int .i64 2) := Boxed.set _ ((Below.heap_setCell _ _ _ _ (by simp)).trans (hx7.heap HS.out.r3))
        exact ⟨(hlow _ _ (by have := HZ.out; omega) (by have := HZ.out; omega) hD5').trans hD5'.symm, (hlow _ _ (by have := HZ.out; omega) (by have := HZ.out; omega) hL5').trans hL5'.symm, rfl, HR.out, B2, B3, ((HS.out.x.trans hx7).setCell (by simp) _).setCell (by simp) _⟩
      · have c3 : ¬ (pw.length : Int) < 3 := by omega
        obtain ⟨y0, hy0⟩ : ∃ y0, pw[0]? = some y0 := ⟨pw[0], List.getElem?_eq_getElem (by omega)⟩
        obtain ⟨y1, hy1⟩ : ∃ y1, pw[1]? = some y1 := ⟨pw[1], List.getElem?_eq_getElem (by omega)⟩
        have HG := Lib.hid (HGO.out (wordB y0 y1 ((pw.drop 2).map fun y => atoiV y.data.toList)) (by
          unfold stepB
          rw [if_neg h3, List.getD_eq_getElem?_getD, hy0, List.getD_eq_getElem?_getD, hy1]
          rfl))
        clear HBAD HGO
        gi_wp2_with (refine ⟨trivial, rfl, ?_⟩; gi_at_call 85; refine (callsIn_wide.2 (hSp _ (HL.out.ext HS.out.x))).mono ?_; rintro e w7 ⟨v7, rfl, ho7, hx7⟩; obtain ⟨g, cw, rfl, hg1, hg2, hg3, hg4⟩ := OwnG.tight ho7 (by omega); have k0 := OwnG.cell1 (fun _ => rfl) ho7 rfl 0 _ (.string y0) hy0 rfl; have k1 := OwnG.cell1 (fun _ => rfl) ho7 rfl 1 _ (.string y1) hy1 rfl)
        obtain ⟨W8, hW8⟩ : ∃ W8, w7.alloc (.cells #[.string y0, .int .i64 0, .int .i64 0, .int .i64 0, .int .i64 0] 32) = W8 := ⟨_, rfl⟩
        have bx : BoxN W8 w7.heap.size 32 #[.string y0, .int .i64 0, .int .i64 0, .int .i64 0, .int .i64 0] := by rw [← hW8]; exact BoxN.new _ _ _
        have hx8 : Ext w7 W8 := by rw [← hW8]; exact (Ext.refl _).alloc _
        have hz8 : W8.heap.size = w7.heap.size + 1 := by rw [← hW8, World.size_alloc]
        rw [hW8]
        clear hW8 k0
        obtain ⟨al, hal⟩ : ∃ al, (pw.drop 2).map (fun y => atoiV y.data.toList) = al := ⟨_, rfl⟩
        rw [hal] at HG
        have hall : al.length = pw.length - 2 := by rw [← hal, List.length_map, List.length_drop]
        have halg : ∀ k y, pw[k + 2]? = some y → al.take (k + 1) = al.take k ++ [atoiV y.data.toList] := fun k y hy => by
          have e : al[k]? = some (atoiV y.data.toList) := by rw [← hal, List.getElem?_map, List.getElem?_drop, Nat.add_comm, hy]; rfl
          rw [List.take_add_one, e]
          rfl
        have HAG := Lib.hid halg
        have HAL := Lib.hid hall
        have HO7 := Lib.hid ho7
        have HBX := Lib.hid bx
        clear hal halg hall ho7 bx
        gi_loopw [8, 31] (fun vl ix wz => ∃ k : Nat, k ≤ al.length ∧ ix = .int .i64 k ∧ OwnI wz W8.heap.size vl (al.take k) ∧ Ext W8 wz) (fun _ ix _ => pw.length - (intOf ix).toNat)
        case atStart => exact ⟨0, by omega, rfl, OwnG.nil _ _ _ _ _, Ext.refl _⟩
        case round =>
          obtain ⟨k, hk1, rfl, hown, hx9⟩ := hrel
          have hal0 := HAL.out
          have d1 : IntKind.i64.wrap ((k : Int) + 1) = (k : Int) + 1 := IntWalk.i64_in _ ⟨by omega, by omega⟩
          by_cases hkl : k < al.length
          · have d2 : (k : Int) < (pw.length - 2 : Nat) := by omega
            obtain ⟨y, hy⟩ : ∃ y, pw[k + 2]? = some y := ⟨pw[k + 2], List.getElem?_eq_getElem (by omega)⟩
            have kc := hx9.cell (hx8.cell (OwnG.cell1 (fun _ => rfl) HO7.out rfl (k + 2) _ (.string y) hy rfl))
            rw [Nat.add_comm k 2] at kc
            have hA := fun W hW => atoi_any y (by have := hsz y (List.mem_of_getElem? hy); omega) W hW
            have HT2 := Lib.hid (HAG.out k y hy)
            generalize atoiV y.data.toList = x at *
            have hlk : (al.take k).length = k := by rw [List.length_take]; omega
            have HO := Lib.hid hown
            clear hy hown
            have hk9 := hx9.size
            gi_wp2_with (first
              | (refine ⟨trivial, rfl, ?_⟩; gi_at_call 86; refine (callsIn_wide.2 (hA _ (HL.out.ext (HS.out.x.trans (hx7.trans (hx8.trans hx9)))))).mono ?_; rintro e w10 ⟨ev, rfl, hx10⟩; obtain ⟨v', w', hr, ho', hg', hb'⟩ := OwnG.append elemI 96 (HO.out.ext (hx10.alloc (.cells #[.int .i64 x] 3))) (SlG.one (cs := fun x : Int => [.int .i64 x]) (fun _ => rfl) x (t0 := 3) (C := #[.int .i64 x]) (b := w10.heap.size) rfl rfl) (fun h => by cases h) (by rw [hlk]; simp; omega) (by rw [hlk]; simp; omega) (by have := hx10.size; rw [World.size_alloc]; omega))
              | (gi_at_builtin; refine wpListIn_app_run _ rfl _ _ 96 rfl _ _ rfl rfl _ _ hr ?_))
            go_roundw
            case rel => exact ⟨k + 1, by omega, by go_num, by rw [HT2.out]; exact ho', below_ext (hx9.trans (hx10.alloc _)) hb' (Nat.le_refl _)⟩
            case measure => simp [intOf, d1]; omega
          · obtain rfl : k = al.length := by omega
            rw [List.take_length] at hown
            have d2 : ¬ (al.length : Int) < (pw.length - 2 : Nat) := by omega
            obtain ⟨Pl, cl, rfl, hsl⟩ := OwnG.slG elemI hown (by omega)
            have q1 := hx9.cell (hx8.cell k1)
            have HW := Lib.hid (And.intro hx7 (And.intro hx8 hx9))
            have hbx := HBX.out.ext hx9
            have HA1 := Lib.hid (show Boxed W5 (w.heap.size + 2) 22 v from a1)
            have a3 : Boxed wr (w.heap.size + 2) 22 v := (hx7.trans (hx8.trans hx9)).heap a1
            have HP7 := Lib.hid (And.intro hz8 hx7.size)
            have ha4 := a3.cell
            have hf4 := a3.frozen
            have ex := HA2.out.ext (hx7.trans (hx8.trans hx9))
            have HEX := Lib.hid ex
            have HSL := Lib.hid hsl
            have HOWN := Lib.hid hown
            have HBX2 := Lib.hid hbx
            clear hsl hown a1 hq2 hpw hsz hSp k1 hx7 hx8 hx9 hg1 hg2 hg3 hg4 hbx ex hk1
            by_cases hk1 : y1 = intB
            · have e1 := list_is (a := y1) (l := [105, 110, 116]) hk1
              by_cases h2 : al.length = 2
              · obtain ⟨a, b, rfl⟩ : ∃ a b, al = [a, b] := by
                  match al, h2 with
                  | [a, b], _ => exact ⟨a, b, rfl⟩
                have hwb : wordB y0 y1 [a, b] = (y0, 1, a, b, 0) := by
                  unfold wordB
                  rw [if_pos ⟨hk1, rfl⟩]
                  rfl
                rw [hwb] at HG
                obtain ⟨gb, go, hP, g0⟩ := HSL.out.intAt 0 (by simp)
                subst hP
                obtain ⟨_, _, hP, g1⟩ := HSL.out.intAt 1 (by simp)
                injection hP with hP
                injection hP with hP1 hP2
                subst hP1 hP2
                simp only [Nat.add_zero, List.getD_cons_zero, List.getD_cons_succ] at g0 g1
                have d3 : pw.length - 2 = 2 := by simp at hal0; omega
                have hne : gb ≠ w7.heap.size := by have := (World.ownsRow.lt HOWN.out gb (by simp [Value.ownBlock])).1; have := HP7.out.1; omega
                have n1 : ¬ gb = w7.heap.size := hne
                have n2 : ¬ w7.heap.size = gb := fun e => hne e.symm
                have z0 := HBX2.out.cell (i := 0) rfl
                have z1 := HBX2.out.cell (i := 1) rfl
                have z2 := HBX2.out.cell (i := 2) rfl
                have z3 := HBX2.out.cell (i := 3) rfl
                have z4 := HBX2.out.cell (i := 4) rfl
                have f1 := HBX2.out.frozen 1
                have f2 := HBX2.out.frozen 2
                have f3 := HBX2.out.frozen 3
                gi_wp2
                refine wpIn_round_held (fun W => W.cell? ⟨gb, go, none⟩ = some (.int .i64 a) ∧ W.cell? ⟨gb, go + 1, none⟩ = some (.int .i64 b)) (by kernel_rfl) (by rintro ⟨a, w, h⟩; exact h) (by kernel_rfl) ?_
                refine wpAnyH_take (i := 0) (v := .slice (some ⟨gb, go, none⟩) 2 cl) (fuel := 11) rfl (by kernel_rfl) (by kernel_rfl) (by kernel_rfl) (fun _ _ _ h => h) (.inl ⟨rfl, fun W hS => by obtain ⟨e1, e2⟩ := hS; go_simp⟩) ⟨g0, g1⟩ ?_
                refine wpAnyH_take (i := 1) (v := .pointer (some ⟨gb, go, none⟩)) (fuel := 10) rfl (by kernel_rfl) (by kernel_rfl) (by kernel_rfl) (fun _ _ _ h => h) (.inl ⟨rfl, fun W hS => by obtain ⟨e1, e2⟩ := hS; go_simp⟩) ⟨g0, g1⟩ ?_
                refine wpAnyH_take (i := 2) (v := .int .i64 a) (fuel := 9) rfl (by kernel_rfl) (by kernel_rfl) (by kernel_rfl) (fun _ _ _ h => h) (.inl ⟨rfl, fun W hS => by obtain ⟨e1, e2⟩ := hS; go_simp⟩) ⟨g0, g1⟩ ?_
                refine wpAnyH_take (i := 3) (v := .slice (some ⟨gb, go, none⟩) 2 cl) (fuel := 8) rfl (by kernel_rfl) (by kernel_rfl) (by kernel_rfl) (fun _ _ _ h => h) (.inl ⟨rfl, fun W hS => by obtain ⟨e1, e2⟩ := hS; go_simp⟩) ⟨g0, g1⟩ ?_
                refine wpAnyH_take (i := 4) (v := .pointer (some ⟨gb, go + 1, none⟩)) (fuel := 7) rfl (by kernel_rfl) (by kernel_rfl) (by kernel_rfl) (fun _ _ _ h => h) (.inl ⟨rfl, fun W hS => by obtain ⟨e1, e2⟩ := hS; go_simp⟩) ⟨g0, g1⟩ ?_
                refine wpAnyH_take (i := 5) (v := .int .i64 b) (fuel := 6) rfl (by kernel_rfl) (by kernel_rfl) (by kernel_rfl) (fun _ _ _ h => h) (.inl ⟨rfl, fun W hS => by obtain ⟨e1, e2⟩ := hS; go_simp⟩) ⟨g0, g1⟩ ?_
                refine wpAnyH_take (i := 6) (v := .pointer (some ⟨w7.heap.size, 1, none⟩)) (fuel := 5) rfl (by kernel_rfl) (by kernel_rfl) (by kernel_rfl) (fun _ _ _ h => h) (.inl ⟨rfl, fun W hS => by obtain ⟨e1, e2⟩ := hS; go_simp⟩) ⟨g0, g1⟩ ?_
                refine wpAnyH_one (i := 7) (fuel := 4) rfl (by kernel_rfl) rfl fun K' hK => ?_
                go_simp
                refine hK _ _ ⟨by simp [World.cell?_setCell_far, n1, n2, g0], by simp [World.cell?_setCell_far, n1, n2, g1]⟩ ?_
                clear hK K'
                refine wpAnyH_take (i := 8) (v := .pointer (some ⟨w7.heap.size, 2, none⟩)) (fuel := 3) rfl (by kernel_rfl) (by kernel_rfl) (by kernel_rfl) (fun _ _ _ h => h) (.inl ⟨rfl, fun W hS => by obtain ⟨e1, e2⟩ := hS; go_simp⟩) ⟨by simp [World.cell?_setCell_far, n1, n2, g0], by simp [World.cell?_setCell_far, n1, n2, g1]⟩ ?_
                refine wpAnyH_one (i := 9) (fuel := 2) rfl (by kernel_rfl) rfl fun K' hK => ?_
                go_simp
                refine hK _ _ ⟨by simp [World.cell?_setCell_far, n1, n2, g0], by simp [World.cell?_setCell_far, n1, n2, g1]⟩ ?_
                clear hK K'
                refine wpAnyH_take (i := 10) (v := .pointer (some ⟨w7.heap.size, 3, none⟩)) (fuel := 1) rfl (by kernel_rfl) (by kernel_rfl) (by kernel_rfl) (fun _ _ _ h => h) (.inl ⟨rfl, fun W hS => by obtain ⟨e1, e2⟩ := hS; go_simp⟩) ⟨by simp [World.cell?_setCell_far, n1, n2, g0], by simp [World.cell?_setCell_far, n1, n2, g1]⟩ ?_
                refine wpAnyH_one (i := 11) (fuel := 0) rfl (by kernel_rfl) rfl fun K' hK => ?_
                go_simp
                refine hK _ _ ⟨by simp [World.cell?_setCell_far, n1, n2, g0], by simp [World.cell?_setCell_far, n1, n2, g1]⟩ ?_
                clear hK K'
                refine wpAnyH_done (by kernel_rfl) ?_ 0
                have hfr : Fresh w W5 w7.heap.size v l #[.string y0, .int .i64 0, .int .i64 0, .int .i64 0, .int .i64 0] wr := ⟨fun q o hq ho => HW.out.2.2.heap (HW.out.2.1.heap (HW.out.1.heap ho)), HEX.out, HBX2.out, HS.out.x.trans (HW.out.1.trans (HW.out.2.1.trans HW.out.2.2))⟩
                have hB5 := HP7.out.2
                have hB8 : w.heap.size + 8 ≤ w7.heap.size := by omega
                have hfr := ((((hfr).set HA2.out hB5 hB8 1 (.int .i64 1)).set HA2.out hB5 hB8 2 (.int .i64 a)).set HA2.out hB5 hB8 3 (.int .i64 b)).drew
                simp only [List.setIfInBounds_toArray, List.set_cons_zero, List.set_cons_succ] at hfr
                generalize World.drew _ = Wd at hfr ⊢
                clear z0 z1 z2 z3 z4
                have a3d : Boxed Wd (w.heap.size + 2) 22 v := hfr.low _ _ (by omega) HA1.out
                have ha4 := a3d.cell
                have hf4 := a3d.frozen
                have z0 := hfr.box.cell (i := 0) rfl
                have z1 := hfr.box.cell (i := 1) rfl
                have z2 := hfr.box.cell (i := 2) rfl
                have z3 := hfr.box.cell (i := 3) rfl
                have z4 := hfr.box.cell (i := 4) rfl
                obtain ⟨v', w', hr, ho', hxw, hlo⟩ := item_app (w := w) (y0, 1, a, b, 0) hfr.own hll (by have := hfr.box.lt; omega) hfr.x
                have b9 : Boxed w' (w.heap.size + 2) 22 v := hlo _ _ (by omega) a3d
                have f9 := b9.frozen
                have hk9 : ∀ q o, q < w.heap.size + 8 → W5.heap[q]? = some o → w'.heap[q]? = some o := fun q o hq ho => hlo q o hq (hfr.low q o hq ho)
                obtain ⟨gv, cv, rfl, _⟩ := OwnG.tight ho' (by simp)
                have e9 : (l ++ [((y0, 1, a, b, 0) : It)]).length = l.length + 1 := by simp
                rw [e9] at ho' hr
                have q9 := b9.cell
                clear e9
                gi_wp2_with (gi_at_builtin; refine wpListIn_app_run _ rfl _ _ 22 rfl _ _ rfl rfl _ _ hr ?_)
                exact round_end hD5 hL5 HB2.out HS.out hk9 ho' hxw HG.out
              · have d3 : ((al.length : Int) == 2) = false := by rw [beq_eq_false_iff_ne]; omega
                have hwb : wordB y0 y1 al = (y0, 0, 0, 0, 0) := by
                  unfold wordB
                  rw [if_neg (fun h => h2 h.2), if_neg (fun h => intB_text (hk1.symm.trans h.1))]
                rw [hwb] at HG
                have e2 := list_ne (a := y1) (l := [116, 101, 120, 116]) (fun h => intB_text (hk1.symm.trans h))
                have z0 := HBX2.out.cell (i := 0) rfl
                have z1 := HBX2.out.cell (i := 1) rfl
                have z2 := HBX2.out.cell (i := 2) rfl
                have z3 := HBX2.out.cell (i := 3) rfl
                have z4 := HBX2.out.cell (i := 4) rfl
                obtain ⟨v', w', hr, ho', hxw, hlo⟩ := item_app (w := w) (y0, 0, 0, 0, 0) HEX.out hll (by have := HP7.out; have := HW.out.2.2.size; omega) (HS.out.x.trans (HW.out.1.trans (HW.out.2.1.trans HW.out.2.2)))
                have b9 : Boxed w' (w.heap.size + 2) 22 v := hlo _ _ (by omega) a3
                have f9 := b9.frozen
                have hk9 : ∀ q o, q < w.heap.size + 8 → W5.heap[q]? = some o → w'.heap[q]? = some o := fun q o hq ho => hlo q o hq (HW.out.2.2.heap (HW.out.2.1.heap (HW.out.1.heap ho)))
                obtain ⟨gv, cv, rfl, _⟩ := OwnG.tight ho' (by simp)
                have e9 : (l ++ [((y0, 0, 0, 0, 0) : It)]).length = l.length + 1 := by simp
                rw [e9] at ho' hr
                have q9 := b9.cell
                clear e9
                gi_wp2_with (gi_at_builtin; refine wpListIn_app_run _ rfl _ _ 22 rfl _ _ rfl rfl _ _ hr ?_)
                exact round_end hD5 hL5 HB2.out HS.out hk9 ho' hxw HG.out
            · have e1 := list_ne (a := y1) (l := [105, 110, 116]) hk1
              by_cases hk2 : y1 = textB
              · have e2 := list_is (a := y1) (l := [116, 101, 120, 116]) hk2
                by_cases h2 : al.length = 1
                · obtain ⟨a, rfl⟩ : ∃ a, al = [a] := by
                    match al, h2 with
                    | [a], _ => exact ⟨a, rfl⟩
                  have hwb : wordB y0 y1 [a] = (y0, 2, 0, 0, a) := by
                    unfold wordB
                    rw [if_neg (fun h => hk1 h.1), if_pos ⟨hk2, rfl⟩]
                    rfl
                  rw [hwb] at HG
                  obtain ⟨gb, go, hP, g0⟩ := HSL.out.intAt 0 (by simp)
                  subst hP
                  simp only [Nat.add_zero, List.getD_cons_zero] at g0
                  have d3 : pw.length - 2 = 1 := by simp at hal0; omega
                  have hne : gb ≠ w7.heap.size := by have := (World.ownsRow.lt HOWN.out gb (by simp [Value.ownBlock])).1; have := HP7.out.1; omega
                  have n1 : ¬ gb = w7.heap.size := hne
                  have n2 : ¬ w7.heap.size = gb := fun e => hne e.symm
                  have z0 := HBX2.out.cell (i := 0) rfl
                  have z1 := HBX2.out.cell (i := 1) rfl
                  have z2 := HBX2.out.cell (i := 2) rfl
                  have z3 := HBX2.out.cell (i := 3) rfl
                  have z4 := HBX2.out.cell (i := 4) rfl
                  have f1 := HBX2.out.frozen 1
                  have f4 := HBX2.out.frozen 4
                  gi_wp2
                  refine wpIn_round_held (fun W => W.cell? ⟨gb, go, none⟩ = some (.int .i64 a) ∧ True) (by kernel_rfl) (by rintro ⟨a, w, h⟩; exact h) (by kernel_rfl) ?_
                  refine wpAnyH_take (i := 0) (v := .slice (some ⟨gb, go, none⟩) 1 cl) (fuel := 6) rfl (by kernel_rfl) (by kernel_rfl) (by kernel_rfl) (fun _ _ _ h => h) (.inl ⟨rfl, fun W hS => by obtain ⟨e1, e2⟩ := hS; go_simp⟩) ⟨g0, trivial⟩ ?_
                  refine wpAnyH_take (i := 1) (v := .pointer (some ⟨gb, go, none⟩)) (fuel := 5) rfl (by kernel_rfl) (by kernel_rfl) (by kernel_rfl) (fun _ _ _ h => h) (.inl ⟨rfl, fun W hS => by obtain ⟨e1, e2⟩ := hS; go_simp⟩) ⟨g0, trivial⟩ ?_
                  refine wpAnyH_take (i := 2) (v := .int .i64 a) (fuel := 4) rfl (by kernel_rfl) (by kernel_rfl) (by kernel_rfl) (fun _ _ _ h => h) (.inl ⟨rfl, fun W hS => by obtain ⟨e1, e2⟩ := hS; go_simp⟩) ⟨g0, trivial⟩ ?_
                  refine wpAnyH_take (i := 3) (v := .pointer (some ⟨w7.heap.size, 1, none⟩)) (fuel := 3) rfl (by kernel_rfl) (by kernel_rfl) (by kernel_rfl) (fun _ _ _ h => h) (.inl ⟨rfl, fun W hS => by obtain ⟨e1, e2⟩ := hS; go_simp⟩) ⟨g0, trivial⟩ ?_
                  refine wpAnyH_one (i := 4) (fuel := 2) rfl (by kernel_rfl) rfl fun K' hK => ?_
                  go_simp
                  refine hK _ _ ⟨by simp [World.cell?_setCell_far, n1, n2, g0], trivial⟩ ?_
                  clear hK K'
                  refine wpAnyH_take (i := 5) (v := .pointer (some ⟨w7.heap.size, 4, none⟩)) (fuel := 1) rfl (by kernel_rfl) (by kernel_rfl) (by kernel_rfl) (fun _ _ _ h => h) (.inl ⟨rfl, fun W hS => by obtain ⟨e1, e2⟩ := hS; go_simp⟩) ⟨by simp [World.cell?_setCell_far, n1, n2, g0], trivial⟩ ?_
                  refine wpAnyH_one (i := 6) (fuel := 0) rfl (by kernel_rfl) rfl fun K' hK => ?_
                  go_simp
                  refine hK _ _ ⟨by simp [World.cell?_setCell_far, n1, n2, g0], trivial⟩ ?_
                  clear hK K'
                  refine wpAnyH_done (by kernel_rfl) ?_ 0
                  have hfr : Fresh w W5 w7.heap.size v l #[.string y0, .int .i64 0, .int .i64 0, .int .i64 0, .int .i64 0] wr := ⟨fun q o hq ho => HW.out.2.2.heap (HW.out.2.1.heap (HW.out.1.heap ho)), HEX.out, HBX2.out, HS.out.x.trans (HW.out.1.trans (HW.out.2.1.trans HW.out.2.2))⟩
                  have hB5 := HP7.out.2
                  have hB8 : w.heap.size + 8 ≤ w7.heap.size := by omega
                  have hfr := (((hfr).set HA2.out hB5 hB8 1 (.int .i64 2)).set HA2.out hB5 hB8 4 (.int .i64 a)).drew
                  simp only [List.setIfInBounds_toArray, List.set_cons_zero, List.set_cons_succ] at hfr
                  generalize World.drew _ = Wd at hfr ⊢
                  clear z0 z1 z2 z3 z4
                  have a3d : Boxed Wd (w.heap.size + 2) 22 v := hfr.low _ _ (by omega) HA1.out
                  have ha4 := a3d.cell
                  have hf4 := a3d.frozen
                  have z0 := hfr.box.cell (i := 0) rfl
                  have z1 := hfr.box.cell (i := 1) rfl
                  have z2 := hfr.box.cell (i := 2) rfl
                  have z3 := hfr.box.cell (i := 3) rfl
                  have z4 := hfr.box.cell (i := 4) rfl
                  obtain ⟨v', w', hr, ho', hxw, hlo⟩ := item_app (w := w) (y0, 2, 0, 0, a) hfr.own hll (by have := hfr.box.lt; omega) hfr.x
                  have b9 : Boxed w' (w.heap.size + 2) 22 v := hlo _ _ (by omega) a3d
                  have f9 := b9.frozen
                  have hk9 : ∀ q o, q < w.heap.size + 8 → W5.heap[q]? = some o → w'.heap[q]? = some o := fun q o hq ho => hlo q o hq (hfr.low q o hq ho)
                  obtain ⟨gv, cv, rfl, _⟩ := OwnG.tight ho' (by simp)
                  have e9 : (l ++ [((y0, 2, 0, 0, a) : It)]).length = l.length + 1 := by simp
                  rw [e9] at ho' hr
                  have q9 := b9.cell
                  clear e9
                  gi_wp2_with (gi_at_builtin; refine wpListIn_app_run _ rfl _ _ 22 rfl _ _ rfl rfl _ _ hr ?_)
                  exact round_end hD5 hL5 HB2.out HS.out hk9 ho' hxw HG.out
                · have d3 : ((al.length : Int) == 1) = false := by rw [beq_eq_false_iff_ne]; omega
                  have hwb : wordB y0 y1 al = (y0, 0, 0, 0, 0) := by
                    unfold wordB
                    rw [if_neg (fun h => hk1 h.1), if_neg (fun h => h2 h.2)]
                  rw [hwb] at HG
                  have z0 := HBX2.out.cell (i := 0) rfl
                  have z1 := HBX2.out.cell (i := 1) rfl
                  have z2 := HBX2.out.cell (i := 2) rfl
                  have z3 := HBX2.out.cell (i := 3) rfl
                  have z4 := HBX2.out.cell (i := 4) rfl
                  obtain ⟨v', w', hr, ho', hxw, hlo⟩ := item_app (w := w) (y0, 0, 0, 0, 0) HEX.out hll (by have := HP7.out; have := HW.out.2.2.size; omega) (HS.out.x.trans (HW.out.1.trans (HW.out.2.1.trans HW.out.2.2)))
                  have b9 : Boxed w' (w.heap.size + 2) 22 v := hlo _ _ (by omega) a3
                  have f9 := b9.frozen
                  have hk9 : ∀ q o, q < w.heap.size + 8 → W5.heap[q]? = some o → w'.heap[q]? = some o := fun q o hq ho => hlo q o hq (HW.out.2.2.heap (HW.out.2.1.heap (HW.out.1.heap ho)))
                  obtain ⟨gv, cv, rfl, _⟩ := OwnG.tight ho' (by simp)
                  have e9 : (l ++ [((y0, 0, 0, 0, 0) : It)]).length = l.length + 1 := by simp
                  rw [e9] at ho' hr
                  have q9 := b9.cell
                  clear e9
                  gi_wp2_with (gi_at_builtin; refine wpListIn_app_run _ rfl _ _ 22 rfl _ _ rfl rfl _ _ hr ?_)
                  exact round_end hD5 hL5 HB2.out HS.out hk9 ho' hxw HG.out
              · have e2 := list_ne (a := y1) (l := [116, 101, 120, 116]) hk2
                have hwb : wordB y0 y1 al = (y0, 0, 0, 0, 0) := by
                  unfold wordB
                  rw [if_neg (fun h => hk1 h.1), if_neg (fun h => hk2 h.1)]
                rw [hwb] at HG
                have z0 := HBX2.out.cell (i := 0) rfl
                have z1 := HBX2.out.cell (i := 1) rfl
                have z2 := HBX2.out.cell (i := 2) rfl
                have z3 := HBX2.out.cell (i := 3) rfl
                have z4 := HBX2.out.cell (i := 4) rfl
                obtain ⟨v', w', hr, ho', hxw, hlo⟩ := item_app (w := w) (y0, 0, 0, 0, 0) HEX.out hll (by have := HP7.out; have := HW.out.2.2.size; omega) (HS.out.x.trans (HW.out.1.trans (HW.out.2.1.trans HW.out.2.2)))
                have b9 : Boxed w' (w.heap.size + 2) 22 v := hlo _ _ (by omega) a3
                have f9 := b9.frozen
                have hk9 : ∀ q o, q < w.heap.size + 8 → W5.heap[q]? = some o → w'.heap[q]? = some o := fun q o hq ho => hlo q o hq (HW.out.2.2.heap (HW.out.2.1.heap (HW.out.1.heap ho)))
                obtain ⟨gv, cv, rfl, _⟩ := OwnG.tight ho' (by simp)
                have e9 : (l ++ [((y0, 0, 0, 0, 0) : It)]).length = l.length + 1 := by simp
                rw [e9] at ho' hr
                have q9 := b9.cell
                clear e9
                gi_wp2_with (gi_at_builtin; refine wpListIn_app_run _ rfl _ _ 22 rfl _ _ rfl rfl _ _ hr ?_)
                exact round_end hD5 hL5 HB2.out HS.out hk9 ho' hxw HG.out
end
end Go.Proofs.YtepgpejdnlejnaaDoor
