/- page.Lines. -/
import Derived.Test.YtfinljcembipkaaReadE
namespace Go.Proofs.Ytfinljcembipkaa
open Go.RowKit
set_option linter.unusedVariables false
attribute [local go_sem] Oper.semAt_some

def flatI (l : List Cel) : List Value := l.map fun c => .int .i64 c.1
theorem flatI_snoc (l : List Cel) (c : Cel) : flatI (l ++ [c]) = flatI l ++ [.int .i64 c.1] := by simp [flatI]
theorem Try.infoI : (Try.prog.info? 3).map (fun i => (i.zero, i.size, i.bytes)) = some (some (.int .i64 0), 1, 8) := by kernel_rfl
theorem append_int (w : World) (base : Nat) (v : Value) (n : Nat) (xs : List Value) (hown : w.ownsRow base 3 1 v n xs) (a : Addr) (x : Value) (hnews : ∀ j u, [x][j]? = some u → w.cell? (a.add j) = some u)
    (h1 : x.oneCell' = true) (hn : n ≤ 1024) (hbase : base ≤ w.heap.size) :
    ∃ v' w', (Builtin.append_ #[41, 41] 41 #[v, .slice (some a) 1 1]).run Try.prog w = .ok v' w' ∧ w'.ownsRow base 3 1 v' (n + 1) (xs ++ [x]) ∧ w.grownBy w' v.ownBlock ∧
      (v' = .slice none 0 0 ↔ v = .slice none 0 0 ∧ 1 = 0) ∧ (v'.ownBlock = v.ownBlock ∨ v'.ownBlock = some w.heap.size) := by
  obtain ⟨i0, hi, hz0, hz1, hz2⟩ := info_parts Try.infoI
  exact run_append_own_at (P := Try.prog) w base 41 41 3 i0 _ 1 8 Try.underlying41 hi hz0 hz1 hz2 rfl (by decide) v n xs hown a 1 1 [x] rfl hnews (by simp [h1]) (by simp only [maxLen]; omega) (by omega) hbase
theorem lineS_any (p : ByteArray) (k : Nat) (w : World) :
    Calls Try.prog 58 #[.agg #[.int .i64 (k + 1), .int .i64 (twoF p (2 + 4 * k)), .int .i64 (twoF p (4 + 4 * k))]] w fun e w' => e = .returned (.int .i64 (k + 1)) ∧ Ext w w' := by
  go_enter Try.func58, Try.ntmps58
  go_wp2
  go_ret
  exact ⟨rfl, (Ext.refl w).alloc _⟩

set_option maxRecDepth 20000 in
set_option maxHeartbeats 2000000 in
theorem gatherI_any (p : ByteArray) (w : World) (h32 : 32 ≤ p.size) (hp : p.size ≤ 4096) (hN : 2 + 4 * twoF p 0 ≤ p.size) :
    Calls Try.prog 57 #[.string p, .func (.func 58) #[] #[]] w fun e w' => ∃ v, e = .returned v ∧ w'.ownsRow w.heap.size 3 1 v (usedL p (twoF p 0)).length (flatI (usedL p (twoF p 0))) ∧ Ext w w' := by
  refine calls_of_wpAt Try.func57 rfl ?_
  simp only [Try.ntmps57, List.size_toArray, List.length_cons, List.length_nil, Nat.reduceAdd, Nat.reduceSub, Array.replicate_succ, Array.replicate_zero, List.push_toArray, List.append_toArray, List.nil_append, List.cons_append]
  refine wpAt_seq_k (fun K hK => ?_)
  go_wp2
  refine wpAt_seq_k (fun K hK => ?_)
  go_wp2
  refine wpAt_seq ?_
  refine wpAt_seq_k (fun K hK => ?_)
  go_wp2_with (go_at_call 75; refine (slots_any p _).mono ?_; rintro e w1 ⟨rfl, rfl⟩)
  obtain ⟨W1, hW1⟩ : ∃ W1, (((w.alloc (.cells #[.func (.func 58) #[] #[]] 69)).alloc (.cells #[.slice none 0 0] 41)).alloc (.cells #[.string p] 9)) = W1 := ⟨_, rfl⟩
  have hb1 : Boxed W1 w.heap.size 69 (.func (.func 58) #[] #[]) := by
    rw [← hW1]; exact ((Boxed.new _ _ _).alloc _).alloc _
  have hb2 : Boxed W1 (w.heap.size + 1) 41 (.slice none 0 0) := by
    rw [← hW1]
    have := Boxed.new (w.alloc (.cells #[.func (.func 58) #[] #[]] 69)) 41 (.slice none 0 0)
    rw [World.size_alloc] at this
    exact this.alloc _
  have hb3 : Boxed W1 (w.heap.size + 2) 9 (.string p) := by
    rw [← hW1]
    have := Boxed.new ((w.alloc (.cells #[.func (.func 58) #[] #[]] 69)).alloc (.cells #[.slice none 0 0] 41)) 9 (.string p)
    rw [World.size_alloc, World.size_alloc] at this
    exact this
  have hsz : W1.heap.size = w.heap.size + 3 := by rw [← hW1]; simp [World.size_alloc]
  have hx0 : Ext w W1 := by rw [← hW1]; exact (((Ext.refl w).alloc _).alloc _).alloc _
  rw [hW1]
  clear hW1
  refine wpAt_block ?_
  refine wpAt_rangeFunc (hf := Try.func57) (gf := 83) (lb := #[.pointer (some ⟨w.heap.size + 2, 0, none⟩)]) rfl (enters_of Try.func83 (by kernel_rfl) rfl)
    (slots_seq p _ (by omega) (by omega) hN) (fun _ => rfl)
    (fun i W => Boxed W w.heap.size 69 (.func (.func 58) #[] #[]) ∧ Boxed W (w.heap.size + 2) 9 (.string p) ∧ Ext w W ∧
      ∃ v, Boxed W (w.heap.size + 1) 41 v ∧ W.ownsRow (w.heap.size + 5) 3 1 v (usedL p i).length (flatI (usedL p i)))
    (fun _ _ _ => False)
    (fun _ _ _ => False)
    (fun i A B ⟨h1, h3, h4, v, h5, h6⟩ hx => ⟨hx.heap h1, hx.heap h3, h4.trans hx, v, hx.heap h5, ownsRow_ext h6 hx⟩)
    (fun _ _ _ _ h _ => h)
    (fun i A B ⟨h1, h3, h4, v, h5, h6⟩ hx => ⟨hx.heap h1 (by omega), hx.heap h3 (by omega), Upd.ext h4 hx (by omega), v, hx.heap h5 (by omega), ownsRow_upd h6 hx (by omega)⟩)
    (fun _ _ _ _ h _ => h)
    (fun i A h => h.2.1.cell)
    ⟨hb1, hb3, hx0, _, hb2, World.ownsRow_nil _ _ _ _⟩ ?round ?done (fun _ _ _ _ h _ => h.elim) (fun _ _ _ _ h _ => h.elim)
  case round =>
    rintro i W ⟨h1, h3, hx, v, h2, hown⟩ hW hi
    have hul := usedL_length p i
    have hlen : (slotV p i) = .agg #[.int .i64 (i + 1), .int .i64 (twoF p (2 + 4 * i)), .int .i64 (twoF p (4 + 4 * i))] := rfl
    have c2 : twoF p (4 + 4 * i) < 65536 := by have := bt_lt p (4 + 4 * i); have := bt_lt p (4 + 4 * i + 1); unfold twoF; omega
    have eu : usedL p (i + 1) = if twoF p (4 + 4 * i) = 0 then usedL p i else usedL p i ++ [cellS p i] := rfl
    have hcall : ∀ W, Calls Try.prog 58 #[.agg #[.int .i64 (i + 1), .int .i64 (twoF p (2 + 4 * i)), .int .i64 (twoF p (4 + 4 * i))]] W fun e w' => e = .returned (.int .i64 (i + 1)) ∧ Ext W w' :=
      fun W => lineS_any p i W
    simp only [slotV]
    gi_wp2
    have hxa : Ext W (W.alloc (.cells #[.int .i64 (i + 1), .int .i64 (twoF p (2 + 4 * i)), .int .i64 (twoF p (4 + 4 * i))] 68)) := (Ext.refl W).alloc _
    have hn5 : (W.alloc (.cells #[.int .i64 (i + 1), .int .i64 (twoF p (2 + 4 * i)), .int .i64 (twoF p (4 + 4 * i))] 68)).heap[W.heap.size]? = some (.cells #[.int .i64 (i + 1), .int .i64 (twoF p (2 + 4 * i)), .int .i64 (twoF p (4 + 4 * i))] 68 (0, 0)) := World.alloc_heap_new _ _
    refine ⟨hxa.block (by omega), hxa.block (by omega), ?_⟩
    intro W2 hu2 hs2
    replace hn5 := hu2.heap hn5 (by omega)
    replace h1 : Boxed W2 _ _ _ := hu2.heap (hxa.heap h1) (by omega)
    replace h2 : Boxed W2 _ _ _ := hu2.heap (hxa.heap h2) (by omega)
    replace h3 : Boxed W2 _ _ _ := hu2.heap (hxa.heap h3) (by omega)
    replace hown := ownsRow_upd (ownsRow_ext hown hxa) hu2 (by omega)
    replace hx := Upd.ext (hx.trans hxa) hu2 (by omega)
    have hsz2 : w.heap.size + 5 ≤ W2.heap.size := by have := hu2.size; have := hxa.size; omega
    have g0 : W2.cell? ⟨W.heap.size, 0, none⟩ = some (.int .i64 (i + 1)) := by simp [World.cell?, hn5]
    have g1 : W2.cell? ⟨W.heap.size, 1, none⟩ = some (.int .i64 (twoF p (2 + 4 * i))) := by simp [World.cell?, hn5]
    have g2 : W2.cell? ⟨W.heap.size, 2, none⟩ = some (.int .i64 (twoF p (4 + 4 * i))) := by simp [World.cell?, hn5]
    have q1 := h1.cell
    have q2 := h2.cell
    clear hu2 hs2 hxa
    generalize W.heap.size = c5 at *
    by_cases hl0 : twoF p (4 + 4 * i) = 0
    · rw [if_pos hl0] at eu
      rw [hl0] at g2
      gi_wp2
      exact ⟨rfl, rfl, h1, h3, hx, v, h2, by rw [eu]; exact hown⟩
    · rw [if_neg hl0] at eu
      have hl1 : (0 : Int) < twoF p (4 + 4 * i) := by omega
      have hE := Lib.hid eu
      clear eu
      generalize twoF p (4 + 4 * i) = len at *
      generalize twoF p (2 + 4 * i) = off at *
      gi_wp2
      have hne : ∀ g, v.ownBlock = some g → g ≠ c5 ∧ g ≠ w.heap.size ∧ g ≠ w.heap.size + 1 ∧ g ≠ w.heap.size + 2 ∧ g ≠ w.heap.size + 3 ∧ g ≠ w.heap.size + 4 := by
        intro g hg
        have hge := (hown.lt g hg).1
        refine ⟨?_, by omega, by omega, by omega, by omega, by omega⟩
        rcases hown.2 with ⟨hv, _⟩ | ⟨g', cap, cur, hv, _, hgh, _⟩
        · rw [hv] at hg; simp [Value.ownBlock] at hg
        · rw [hv] at hg
          simp [Value.ownBlock] at hg
          subst hg
          intro e
          subst e
          rw [hgh] at hn5
          simp at hn5
      have hc5l : c5 < W2.heap.size := block_lt g0
      have hcells : ∀ W, W2.grownBy W v.ownBlock → W.cell? ⟨w.heap.size, 0, none⟩ = some (.func (.func 58) #[] #[]) ∧
        W.cell? ⟨c5, 0, none⟩ = some (.int .i64 (i + 1)) ∧ W.cell? ⟨c5, 1, none⟩ = some (.int .i64 off) ∧ W.cell? ⟨c5, 2, none⟩ = some (.int .i64 len) := fun W hg => by
        have e1 : W.cell? ⟨w.heap.size, 0, none⟩ = W2.cell? ⟨w.heap.size, 0, none⟩ := World.cell?_of_block (hg.block _ (block_lt q1) (fun e => (hne _ e.symm).2.1 rfl))
        have e2 : ∀ j, W.cell? ⟨c5, j, none⟩ = W2.cell? ⟨c5, j, none⟩ := fun j => World.cell?_of_block (hg.block _ hc5l (fun e => (hne _ e.symm).1 rfl))
        exact ⟨e1.trans q1, (e2 0).trans g0, (e2 1).trans g1, (e2 2).trans g2⟩
      refine wpIn_round_held (fun W => W.cell? ⟨w.heap.size, 0, none⟩ = some (.func (.func 58) #[] #[]) ∧
        W.cell? ⟨c5, 0, none⟩ = some (.int .i64 (i + 1)) ∧ W.cell? ⟨c5, 1, none⟩ = some (.int .i64 off) ∧ W.cell? ⟨c5, 2, none⟩ = some (.int .i64 len)) (by kernel_rfl) (by rintro ⟨a, w, h⟩; exact h) (by kernel_rfl) ?_
      refine wpAnyH_take (i := 1) (v := .func (.func 58) #[] #[]) (fuel := 6) rfl (by kernel_rfl) (by kernel_rfl) (by kernel_rfl) (fun _ _ _ h => h) (.inl ⟨rfl, fun W hS => by obtain ⟨e2, e3, e4, e5⟩ := hS; go_simp⟩) ⟨q1, g0, g1, g2⟩ ?_
      refine wpAnyH_take (i := 2) (v := .agg #[.int .i64 (i + 1), .int .i64 off, .int .i64 len]) (fuel := 5) rfl (by kernel_rfl) (by kernel_rfl) (by kernel_rfl) (fun _ _ _ h => h) (.inl ⟨rfl, fun W hS => by obtain ⟨e2, e3, e4, e5⟩ := hS; go_simp⟩) ⟨q1, g0, g1, g2⟩ ?_
      refine wpAnyH_two (i := 0) (j := 3) (fuel := 4) rfl rfl (by kernel_rfl) rfl rfl (fun K' hK => ?_) (fun K' hK => ?_)
      · go_simp
        refine hK _ _ ⟨q1, g0, g1, g2⟩ ?_
        clear hK K'
        refine wpAnyH_one (i := 3) (fuel := 3) rfl (by kernel_rfl) rfl fun K' hK => ?_
        go_simp
        refine (hcall _).mono ?_
        rintro e w5 ⟨rfl, hx5⟩
        have hx5' : Ext W2 w5 := Ext.trans (Ext.drew (Ext.refl W2)) hx5
        refine hK _ _ (hcells _ (grownBy_ext hx5' _)) ?_
        clear hK K'
        refine wpAnyH_one (i := 4) (fuel := 2) rfl (by kernel_rfl) rfl fun K' hK => ?_
        go_simp
        refine hK _ _ (hcells _ (grownBy_ext (hx5'.alloc _) _)) ?_
        clear hK K'
        obtain ⟨v', w7, hrun, hown', hgrow, hnil, hat⟩ := append_int (w5.alloc (.cells #[.int .i64 (i + 1)] 3)) (w.heap.size + 5) v (usedL p i).length (flatI (usedL p i)) (ownsRow_ext hown (hx5'.alloc _)) ⟨w5.heap.size, 0, none⟩ (.int .i64 (i + 1)) (cell_one_new _ _ _) rfl (by omega) (by have := hx5'.size; simp [World.size_alloc] at this ⊢; omega)
        refine wpAnyH_one (i := 5) (fuel := 1) rfl (by kernel_rfl) rfl fun K' hK => ?_
        refine wp_append_at (.tmp 13) (.tmp 17) 41 rfl v (.slice (some ⟨w5.heap.size, 0, none⟩) 1 1) rfl rfl hrun ?_
        have hg7 : W2.grownBy w7 v.ownBlock := (grownBy_ext (hx5'.alloc _) _).trans hgrow
        refine hK _ _ (hcells _ hg7) ?_
        clear hK K'
        obtain ⟨g', cap', rfl⟩ := ownsRow_succ hown'
        have k7 : Boxed w7 (w.heap.size + 1) 41 v := (hg7.block _ (block_lt q2) (fun e => (hne _ e.symm).2.2.1 rfl)).trans h2
        have k1 : Boxed w7 w.heap.size 69 _ := (hg7.block _ (block_lt q1) (fun e => (hne _ e.symm).2.1 rfl)).trans h1
        have k3 : Boxed w7 (w.heap.size + 2) 9 _ := (hg7.block _ (by omega) (fun e => (hne _ e.symm).2.2.2.1 rfl)).trans h3
        have q7 := k7.cell
        have f7 := k7.frozen
        refine wpAnyH_one (i := 6) (fuel := 0) rfl (by kernel_rfl) rfl fun K' hK => ?_
        go_simp
        have hkc := hcells _ hg7
        have hu : ∀ u, Upd w7 (w.heap.size + 1) (w7.setCell ⟨w.heap.size + 1, 0, none⟩ u) := fun u => Upd.setCell w7 _ 0 u
        refine hK _ _ ⟨(hu _).cell hkc.1 (by simp), (hu _).cell hkc.2.1 (by simp; omega), (hu _).cell hkc.2.2.1 (by simp; omega), (hu _).cell hkc.2.2.2 (by simp; omega)⟩ ?_
        clear hK K'
        refine wpAnyH_done (by kernel_rfl) ?_ 0
        have hbk : ∀ u k, k ≠ w.heap.size + 1 → k < W2.heap.size → v.ownBlock ≠ some k → (w7.setCell ⟨w.heap.size + 1, 0, none⟩ u).heap[k]? = W2.heap[k]? := fun u k n1 n2 n3 =>
          (Below.heap_setCell _ _ _ k n1).trans (hg7.block k n2 (fun e => n3 e.symm))
        have hxf : ∀ u, Ext w (w7.setCell ⟨w.heap.size + 1, 0, none⟩ u) := fun u =>
          Ext.setCell (Below.grown hx hg7 hx.size (fun k hk => by have := (hown.lt k hk).1; omega)) (Nat.le_succ _) u
        refine ⟨hbk _ _ (by omega) (by omega) (fun e => (hne _ e).2.2.2.2.1 (by omega)), hbk _ _ (by omega) (by omega) (fun e => (hne _ e).2.2.2.2.2 (by omega)), k1.other (by omega) _, k3.other (by omega) _, hxf _, _, k7.set _, ?_⟩
        rw [hE.out]
        have hk := hown'.kept (grownBy_setCell' w7 (w.heap.size + 1) (.slice (some ⟨g', 0, none⟩) ((usedL p i).length + 1) cap')) (.inr (by simp [Value.ownBlock]; have := (hown'.lt g' rfl).1; omega))
        rw [flatI_snoc, List.length_append]
        exact hk
      · go_simp
        refine (hcall _).mono ?_
        rintro e w5 ⟨rfl, hx5⟩
        have hx5' : Ext W2 w5 := Ext.trans (Ext.drew (Ext.refl W2)) hx5
        refine hK _ _ (hcells _ (grownBy_ext hx5' _)) ?_
        clear hK K'
        have q5 := hx5'.cell q2
        refine wpAnyH_two (i := 0) (j := 4) (fuel := 3) rfl rfl (by kernel_rfl) rfl rfl (fun K' hK => ?_) (fun K' hK => ?_)
        · go_simp
          refine hK _ _ (hcells _ (grownBy_ext hx5' _)) ?_
          clear hK K'
          refine wpAnyH_one (i := 4) (fuel := 2) rfl (by kernel_rfl) rfl fun K' hK => ?_
          go_simp
          refine hK _ _ (hcells _ (grownBy_ext (hx5'.alloc _) _)) ?_
          clear hK K'
          obtain ⟨v', w7, hrun, hown', hgrow, hnil, hat⟩ := append_int (w5.alloc (.cells #[.int .i64 (i + 1)] 3)) (w.heap.size + 5) v (usedL p i).length (flatI (usedL p i)) (ownsRow_ext hown (hx5'.alloc _)) ⟨w5.heap.size, 0, none⟩ (.int .i64 (i + 1)) (cell_one_new _ _ _) rfl (by omega) (by have := hx5'.size; simp [World.size_alloc] at this ⊢; omega)
          refine wpAnyH_one (i := 5) (fuel := 1) rfl (by kernel_rfl) rfl fun K' hK => ?_
          refine wp_append_at (.tmp 13) (.tmp 17) 41 rfl v (.slice (some ⟨w5.heap.size, 0, none⟩) 1 1) rfl rfl hrun ?_
          have hg7 : W2.grownBy w7 v.ownBlock := (grownBy_ext (hx5'.alloc _) _).trans hgrow
          refine hK _ _ (hcells _ hg7) ?_
          clear hK K'
          obtain ⟨g', cap', rfl⟩ := ownsRow_succ hown'
          have k7 : Boxed w7 (w.heap.size + 1) 41 v := (hg7.block _ (block_lt q2) (fun e => (hne _ e.symm).2.2.1 rfl)).trans h2
          have k1 : Boxed w7 w.heap.size 69 _ := (hg7.block _ (block_lt q1) (fun e => (hne _ e.symm).2.1 rfl)).trans h1
          have k3 : Boxed w7 (w.heap.size + 2) 9 _ := (hg7.block _ (by omega) (fun e => (hne _ e.symm).2.2.2.1 rfl)).trans h3
          have q7 := k7.cell
          have f7 := k7.frozen
          refine wpAnyH_one (i := 6) (fuel := 0) rfl (by kernel_rfl) rfl fun K' hK => ?_
          go_simp
          have hkc := hcells _ hg7
          have hu : ∀ u, Upd w7 (w.heap.size + 1) (w7.setCell ⟨w.heap.size + 1, 0, none⟩ u) := fun u => Upd.setCell w7 _ 0 u
          refine hK _ _ ⟨(hu _).cell hkc.1 (by simp), (hu _).cell hkc.2.1 (by simp; omega), (hu _).cell hkc.2.2.1 (by simp; omega), (hu _).cell hkc.2.2.2 (by simp; omega)⟩ ?_
          clear hK K'
          refine wpAnyH_done (by kernel_rfl) ?_ 0
          have hbk : ∀ u k, k ≠ w.heap.size + 1 → k < W2.heap.size → v.ownBlock ≠ some k → (w7.setCell ⟨w.heap.size + 1, 0, none⟩ u).heap[k]? = W2.heap[k]? := fun u k n1 n2 n3 =>
            (Below.heap_setCell _ _ _ k n1).trans (hg7.block k n2 (fun e => n3 e.symm))
          have hxf : ∀ u, Ext w (w7.setCell ⟨w.heap.size + 1, 0, none⟩ u) := fun u =>
            Ext.setCell (Below.grown hx hg7 hx.size (fun k hk => by have := (hown.lt k hk).1; omega)) (Nat.le_succ _) u
          refine ⟨hbk _ _ (by omega) (by omega) (fun e => (hne _ e).2.2.2.2.1 (by omega)), hbk _ _ (by omega) (by omega) (fun e => (hne _ e).2.2.2.2.2 (by omega)), k1.other (by omega) _, k3.other (by omega) _, hxf _, _, k7.set _, ?_⟩
          rw [hE.out]
          have hk := hown'.kept (grownBy_setCell' w7 (w.heap.size + 1) (.slice (some ⟨g', 0, none⟩) ((usedL p i).length + 1) cap')) (.inr (by simp [Value.ownBlock]; have := (hown'.lt g' rfl).1; omega))
          rw [flatI_snoc, List.length_append]
          exact hk
        · go_simp
          refine hK _ _ (hcells _ (grownBy_ext (hx5'.alloc _) _)) ?_
          clear hK K'
          have q6 := (hx5'.alloc (.cells #[.int .i64 (i + 1)] 3)).cell q2
          refine wpAnyH_one (i := 0) (fuel := 2) rfl (by kernel_rfl) rfl fun K' hK => ?_
          go_simp
          refine hK _ _ (hcells _ (grownBy_ext (hx5'.alloc _) _)) ?_
          clear hK K'
          obtain ⟨v', w7, hrun, hown', hgrow, hnil, hat⟩ := append_int (w5.alloc (.cells #[.int .i64 (i + 1)] 3)) (w.heap.size + 5) v (usedL p i).length (flatI (usedL p i)) (ownsRow_ext hown (hx5'.alloc _)) ⟨w5.heap.size, 0, none⟩ (.int .i64 (i + 1)) (cell_one_new _ _ _) rfl (by omega) (by have := hx5'.size; simp [World.size_alloc] at this ⊢; omega)
          refine wpAnyH_one (i := 5) (fuel := 1) rfl (by kernel_rfl) rfl fun K' hK => ?_
          refine wp_append_at (.tmp 13) (.tmp 17) 41 rfl v (.slice (some ⟨w5.heap.size, 0, none⟩) 1 1) rfl rfl hrun ?_
          have hg7 : W2.grownBy w7 v.ownBlock := (grownBy_ext (hx5'.alloc _) _).trans hgrow
          refine hK _ _ (hcells _ hg7) ?_
          clear hK K'
          obtain ⟨g', cap', rfl⟩ := ownsRow_succ hown'
          have k7 : Boxed w7 (w.heap.size + 1) 41 v := (hg7.block _ (block_lt q2) (fun e => (hne _ e.symm).2.2.1 rfl)).trans h2
          have k1 : Boxed w7 w.heap.size 69 _ := (hg7.block _ (block_lt q1) (fun e => (hne _ e.symm).2.1 rfl)).trans h1
          have k3 : Boxed w7 (w.heap.size + 2) 9 _ := (hg7.block _ (by omega) (fun e => (hne _ e.symm).2.2.2.1 rfl)).trans h3
          have q7 := k7.cell
          have f7 := k7.frozen
          refine wpAnyH_one (i := 6) (fuel := 0) rfl (by kernel_rfl) rfl fun K' hK => ?_
          go_simp
          have hkc := hcells _ hg7
          have hu : ∀ u, Upd w7 (w.heap.size + 1) (w7.setCell ⟨w.heap.size + 1, 0, none⟩ u) := fun u => Upd.setCell w7 _ 0 u
          refine hK _ _ ⟨(hu _).cell hkc.1 (by simp), (hu _).cell hkc.2.1 (by simp; omega), (hu _).cell hkc.2.2.1 (by simp; omega), (hu _).cell hkc.2.2.2 (by simp; omega)⟩ ?_
          clear hK K'
          refine wpAnyH_done (by kernel_rfl) ?_ 0
          have hbk : ∀ u k, k ≠ w.heap.size + 1 → k < W2.heap.size → v.ownBlock ≠ some k → (w7.setCell ⟨w.heap.size + 1, 0, none⟩ u).heap[k]? = W2.heap[k]? := fun u k n1 n2 n3 =>
            (Below.heap_setCell _ _ _ k n1).trans (hg7.block k n2 (fun e => n3 e.symm))
          have hxf : ∀ u, Ext w (w7.setCell ⟨w.heap.size + 1, 0, none⟩ u) := fun u =>
            Ext.setCell (Below.grown hx hg7 hx.size (fun k hk => by have := (hown.lt k hk).1; omega)) (Nat.le_succ _) u
          refine ⟨hbk _ _ (by omega) (by omega) (fun e => (hne _ e).2.2.2.2.1 (by omega)), hbk _ _ (by omega) (by omega) (fun e => (hne _ e).2.2.2.2.2 (by omega)), k1.other (by omega) _, k3.other (by omega) _, hxf _, _, k7.set _, ?_⟩
          rw [hE.out]
          have hk := hown'.kept (grownBy_setCell' w7 (w.heap.size + 1) (.slice (some ⟨g', 0, none⟩) ((usedL p i).length + 1) cap')) (.inr (by simp [Value.ownBlock]; have := (hown'.lt g' rfl).1; omega))
          rw [flatI_snoc, List.length_append]
          exact hk
  case done =>
    rintro W ⟨h1, h3, hx, v, h2, hown⟩ hD
    have q2 := h2.cell
    refine wpAt_of_wp ?_
    go_wp2
    refine ⟨by simp, .inl ⟨_, _, rfl, run_takeDeferred (by rw [← hsz]; exact hD), ?_⟩⟩
    rw [← hsz]
    refine ⟨_, results_tmp rfl _ _ _, v, rfl, ?_, Upd.ext hx (grownBy_putObj' _ _ _) (by omega)⟩
    exact ownsRow_base (ownsRow_upd hown (grownBy_putObj' _ _ _) (by omega)) (by omega)
end Go.Proofs.Ytfinljcembipkaa
