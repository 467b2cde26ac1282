/- ChainTexts: Parse of the program. -/
import Derived.Test.YtpobjheodlkkiaaGreatDoorChTF
namespace Go.Proofs.YtpobjheodlkkiaaGreatDoor
open Go.RowKit Go.Maps
set_option linter.unusedVariables false
set_option linter.unusedSimpArgs false
set_option linter.unusedSectionVars false
set_option maxRecDepth 100000
attribute [local go_sem] Oper.semAt_some

theorem cell_set_ne {W : World} {a p : Addr} {u : Value} (v : Value) (h : p.block ≠ a.block) (hc : W.cell? p = some u) : (W.setCell a v).cell? p = some u := by
  unfold World.cell? at *
  rw [Below.heap_setCell _ _ _ _ h]
  exact hc
theorem hB_alloc (W : World) (o : Obj) (n : Nat) (h : n < W.heap.size) : (W.alloc o).heap[n]? = W.heap[n]? := Lib.alloc_old W o n h
def LiC (B g : Nat) (pw : List ByteArray) (W5 : World) (ix : Value) (wz : World) : Prop :=
  ∃ k : Nat, k ≤ pw.length ∧ ix = .int .i64 (k : Int) ∧ BoxN wz B 3 (A4 (xC pw) k) ∧ (∀ q y, pw[q]? = some y → wz.cell? ⟨g, q, none⟩ = some (.string y)) ∧ Ext W5 wz
set_option maxHeartbeats 4000000 in
theorem parse_any (t : ByteArray) (ht : t.size ≤ 10000) (w : World) (hL : LibW w) :
    Calls Tryz.prog 7 #[.string t] w (ParsePostC (parsePC t.data.toList) w) := by
  have htl : t.data.toList.length = t.size := by simp
  have c0 : ¬ (20000 : Int) < t.size := by omega
  refine calls_of_wpAt Tryz.func7 rfl ?_
  simp only [Tryz.ntmps7, List.size_toArray, List.length_cons, List.length_nil, Nat.reduceAdd, Nat.reduceSub, Array.replicate_succ, Array.replicate_zero, List.push_toArray, List.append_toArray, List.nil_append, List.cons_append]
  refine wpAt_seq_k (fun K hK => ?_)
  go_wp2
  refine wpAt_seq_k (fun K hK => ?_)
  go_wp2
  refine wpAt_seq_k (fun K hK => ?_)
  go_wp2
  obtain ⟨W3, hW3⟩ : ∃ W3, w.alloc (.cells #[.slice none 0 0] 22) = W3 := ⟨_, rfl⟩
  have b3 : Boxed W3 w.heap.size 22 (.slice none 0 0) := by rw [← hW3]; exact Boxed.new _ _ _
  have hx3 : Ext w W3 := by rw [← hW3]; exact (Ext.refl _).alloc _
  have hz3 : W3.heap.size = w.heap.size + 1 := by rw [← hW3, World.size_alloc]
  try rw [hW3]
  clear hW3
  refine wpAt_seq ?_
  refine wpAt_seq_k (fun K hK => ?_)
  go_wp2_with (go_at_call 18; refine (lines_any t _).mono ?_; rintro e w4 ⟨rfl, rfl⟩)
  obtain ⟨W4, hW4⟩ : ∃ W4, W3.alloc (.cells #[.string t] 9) = W4 := ⟨_, rfl⟩
  have b4 : Boxed W4 (w.heap.size + 1) 9 (.string t) := by
    rw [← hW4]
    have := Boxed.new W3 9 (.string t)
    rw [hz3] at this
    exact this
  have hx4 : Ext W3 W4 := by rw [← hW4]; exact (Ext.refl _).alloc _
  have hz4 : W4.heap.size = w.heap.size + 2 := by rw [← hW4, World.size_alloc, hz3]
  replace b3 := hx4.heap b3
  have hx := hx3.trans hx4
  rw [hW4]
  clear hW4 hx3 hx4 hz3
  have hps0 : PSC w w.heap.size (w.heap.size + 4) (readCN t.data.toList 0) W4 := ⟨⟨_, b3, OwnG.nil _ _ _ _ _⟩, hx⟩
  refine wpAt_block ?_
  have HZ := Lib.hid hz4
  have HL := Lib.hid hL
  refine wpAt_rangeFuncS (hf := Tryz.func7) (gf := 30) (lb := #[.pointer (some ⟨w.heap.size + 1, 0, none⟩)]) rfl (enters_of Tryz.func30 (by kernel_rfl) rfl)
    (lines_seq t (w.heap.size + 1) (by omega)) (by omega) (fun _ => rfl)
    (fun i W => PSC w w.heap.size (w.heap.size + 4) (readCN t.data.toList i) W ∧ Boxed W (w.heap.size + 1) 9 (restV t i))
    (fun i W => PSC w w.heap.size (w.heap.size + 4) (readCN t.data.toList i) W ∧ Boxed W (w.heap.size + 1) 9 (restV t (i + 1)))
    (fun _ _ _ => False)
    (fun _ _ _ => False)
    (fun i A B ⟨h1, h2⟩ hx => ⟨h1.ext hx, hx.heap h2⟩)
    (fun i A B ⟨h1, h2⟩ hx => ⟨h1.ext hx, hx.heap h2⟩)
    (fun _ _ _ _ h _ => h)
    (fun i A r r' ⟨h1, h2⟩ hl => ⟨h1.upd (grownBy_putObj' _ _ _) (by omega) (by omega) (by omega), (World.putObj_heap_other (by omega)).trans h2⟩)
    (fun _ _ _ _ _ h _ => h)
    (fun i A h => h.2)
    (fun i A hi ⟨h1, h2⟩ => ⟨h1.upd (Upd.setCell _ _ _ _) (by omega) (by omega) (by omega), h2.set _⟩)
    ⟨hps0, b4⟩ ?round ?done (fun _ _ _ _ h _ => h.elim) (fun _ _ _ _ h _ => h.elim)
  case round =>
    rintro i W r ⟨h1, h2⟩ hW hD hLp hi
    gi_wp2
    refine ⟨trivial, trivial, ?_⟩
    rintro W5 r' hW5
    have hL5 : W5.heap[W4.heap.size + 1]? = some (.loop r') := by rw [hW5]; exact World.putObj_heap_same (by omega)
    have hD5 : W5.heap[W4.heap.size]? = some (.deferred (some [])) := by rw [hW5, World.putObj_heap_other (by omega)]; exact hD
    have hs5 : W5.heap.size = W.heap.size := by rw [hW5]; simp [World.putObj]
    replace h1 : PSC w w.heap.size (w.heap.size + 4) (readCN t.data.toList i) W5 := by rw [hW5]; exact h1.upd (grownBy_putObj' _ _ _) (by omega) (by omega) (by omega)
    replace h2 : Boxed W5 (w.heap.size + 1) 9 (restV t (i + 1)) := by rw [hW5]; exact (World.putObj_heap_other (by omega)).trans h2
    clear hW5 hD hLp
    have HRD := Lib.hid (readCN_succ t.data.toList i hi)
    have hil := Nat.le_trans (linesC_len t.data.toList) (by omega : t.data.toList.length ≤ 10000)
    have hal : (readCN t.data.toList i).length ≤ 10000 := by unfold readCN; rw [List.length_map, List.length_take]; omega
    have hll := lineN_len t.data.toList i
    have htl2 := trim_len (lineN t.data.toList i)
    obtain ⟨st, hst⟩ : ∃ st, readCN t.data.toList i = st := ⟨_, rfl⟩
    rw [hst] at HRD h1 hal
    clear hst
    simp only [lineV]
    rw [show (linesC t.data.toList).getD i [] = lineN t.data.toList i from rfl]
    obtain ⟨ln, hln⟩ : ∃ ln, lineN t.data.toList i = ln := ⟨_, rfl⟩
    rw [hln] at HRD hll htl2
    rw [hln]
    clear hln
    rw [stepC_B] at HRD
    have hT := fun W => trim_any (mkB ln) (by rw [mkB_size]; omega) W
    rw [mkB_toList] at hT
    have hX := mkB_size (Lib.trimSuffix ln [10])
    have hpl := spB_len (mkB (Lib.trimSuffix ln [10]))
    have hSp := fun W hW => splitn_any (mkB (Lib.trimSuffix ln [10])) (by omega) W hW
    have hsz : ∀ y ∈ spB (mkB (Lib.trimSuffix ln [10])), y.size ≤ 10000 := fun y hy => by
      have := spB_mem _ y hy
      omega
    obtain ⟨v, a1, a2⟩ := h1.a
    have HS := Lib.hid h1
    generalize spB (mkB (Lib.trimSuffix ln [10])) = pw at *
    generalize mkB (Lib.trimSuffix ln [10]) = X at *
    generalize mkB ln = LN at *
    clear htl2 hX hll h1
    have hmk := mk4_run
    have hb0 : BoxN (W5.alloc (.cells (I4 0 0 0 0) 3)) W5.heap.size 3 (A4 (xC pw) 0) := BoxN.new W5 _ _
    have hxa : Ext W5 (W5.alloc (.cells (I4 0 0 0 0) 3)) := (Ext.refl _).alloc _
    gi_wp2_with (first
      | (refine ⟨trivial, rfl, ?_⟩; gi_at_call 20; refine (callsIn_wide.2 (hT _)).mono ?_; rintro e w6 ⟨rfl, h6⟩; subst h6)
      | (refine ⟨trivial, rfl, ?_⟩; gi_at_call 19; refine (callsIn_wide.2 (hSp _ (HL.out.ext (HS.out.x.trans hxa)))).mono ?_; rintro e w7 ⟨cw, rfl, ho7, hx7⟩))
    have hb7 : BoxN w7 W.heap.size 3 (A4 (xC pw) 0) := hs5 ▸ hb0.ext hx7
    have hp7 : ∀ q y, pw[q]? = some y → w7.cell? ⟨W.heap.size + 1, q, none⟩ = some (.string y) := fun q y hq => by
      obtain ⟨b, off, e, hh⟩ := ho7.at_ q y hq
      have h0 := hh 0 _ rfl
      injection e with e
      injection e with e1 e2 e3
      subst e1 e2
      rw [World.size_alloc, hs5] at h0
      simpa [csS] using h0
    have hx57 := hxa.trans hx7
    clear ho7 hx7 hxa hb0 hT hSp
    gi_loopw [20] (fun ix wz => LiC W.heap.size (W.heap.size + 1) pw W5 ix wz) (fun ix _ => pw.length - (intOf ix).toNat)
    case atStart => exact ⟨0, by omega, rfl, hb7, hp7, hx57⟩
    case round =>
      obtain ⟨k, hk1, rfl, hbx, hpc, hx8⟩ := hrel
      have d1 : IntKind.i64.wrap ((k : Int) + 1) = (k : Int) + 1 := IntWalk.i64_in _ ⟨by omega, by omega⟩
      by_cases hkl : k < pw.length
      · obtain ⟨y, hy⟩ : ∃ y, pw[k]? = some y := ⟨pw[k], List.getElem?_eq_getElem hkl⟩
        have kc := hpc k y hy
        have hA := fun W hW => atoi_any y (by have := hsz y (List.mem_of_getElem? hy); omega) W hW
        have HXK := Lib.hid (show xC pw k = atoiV y.data.toList by unfold xC; rw [hy])
        have oc := hbx.cell (A4_old (xC pw) k (by omega))
        have d2 : (k : Int) < pw.length := by omega
        have d3 : (k : Int) < 4 := by omega
        have HPC := Lib.hid hpc
        have HBX := Lib.hid hbx
        generalize atoiV y.data.toList = x at *
        clear hpc hy hsz hbx hb7 hp7
        gi_wp2_with (refine ⟨trivial, rfl, ?_⟩; gi_at_call 21; refine (callsIn_wide.2 (hA _ (HL.out.ext (HS.out.x.trans hx8)))).mono ?_; rintro e w8 ⟨ev, rfl, hx9⟩; have oc8 := hx9.cell oc; have fz8 := (HBX.out.ext hx9).frozen k)
        gi_wp2
        go_roundw
        case rel => exact ⟨k + 1, by omega, by go_num, by rw [← A4_set _ _ (by omega), HXK.out]; exact (HBX.out.ext hx9).set _ _, fun q z hz => cell_set_ne _ (by simp) (hx9.cell (HPC.out q z hz)), (hx8.trans hx9).setCell (by simp only; omega) _⟩
        case measure => simp [intOf, d1]; omega
      · obtain rfl : k = pw.length := by omega
        rw [A4_end (xC pw) pw.length hpl (fun i hi => by unfold xC; rw [List.getElem?_eq_none hi])] at hbx
        have l0 : wr.cell? ⟨W.heap.size, 0, none⟩ = some (.int .i64 (xC pw 0)) := hbx.cell rfl
        have l1 : wr.cell? ⟨W.heap.size, 1, none⟩ = some (.int .i64 (xC pw 1)) := hbx.cell rfl
        have l2 : wr.cell? ⟨W.heap.size, 2, none⟩ = some (.int .i64 (xC pw 2)) := hbx.cell rfl
        have l3 : wr.cell? ⟨W.heap.size, 3, none⟩ = some (.int .i64 (xC pw 3)) := hbx.cell rfl
        have q4 := hx8.cell a1.cell
        have hk0 : ¬ (pw.length : Int) < pw.length := by omega
        clear hpc hsz hb7 hp7 hbx
        gi_wp2
        refine wpIn_round_F (fun W' => W'.cell? ⟨w.heap.size, 0, none⟩ = some v ∧ W'.cell? ⟨W.heap.size, 0, none⟩ = some (.int .i64 (xC pw 0)) ∧ W'.cell? ⟨W.heap.size, 1, none⟩ = some (.int .i64 (xC pw 1)) ∧ W'.cell? ⟨W.heap.size, 2, none⟩ = some (.int .i64 (xC pw 2)) ∧ W'.cell? ⟨W.heap.size, 3, none⟩ = some (.int .i64 (xC pw 3))) 16 (by kernel_rfl) (by rintro ⟨a, w, h⟩; exact h) (by kernel_rfl) ?_
        have q2 : wr.drew.cell? ⟨w.heap.size, 0, none⟩ = some v ∧ wr.drew.cell? ⟨W.heap.size, 0, none⟩ = some (.int .i64 (xC pw 0)) ∧ wr.drew.cell? ⟨W.heap.size, 1, none⟩ = some (.int .i64 (xC pw 1)) ∧ wr.drew.cell? ⟨W.heap.size, 2, none⟩ = some (.int .i64 (xC pw 2)) ∧ wr.drew.cell? ⟨W.heap.size, 3, none⟩ = some (.int .i64 (xC pw 3)) := ⟨q4, l0, l1, l2, l3⟩
        refine wpAnyF_take (i := 0) (v := v) (fuel := 16) rfl (by kernel_rfl) (by kernel_rfl) (by kernel_rfl) (by kernel_rfl) (by kernel_rfl) rfl (fun _ _ _ h => h) (.inl ⟨rfl, fun W hS => by obtain ⟨s0, s1, s2, s3, s4⟩ := hS; go_simp⟩) q2 ?_
        refine wpAnyF_take (i := 1) (v := .slice (some ⟨W.heap.size, 0, none⟩) 4 4) (fuel := 15) rfl (by kernel_rfl) (by kernel_rfl) (by kernel_rfl) (by kernel_rfl) (by kernel_rfl) rfl (fun _ _ _ h => h) (.inl ⟨rfl, fun W hS => by obtain ⟨s0, s1, s2, s3, s4⟩ := hS; go_simp⟩) q2 ?_
        refine wpAnyF_take (i := 2) (v := .pointer (some ⟨W.heap.size, 0, none⟩)) (fuel := 14) rfl (by kernel_rfl) (by kernel_rfl) (by kernel_rfl) (by kernel_rfl) (by kernel_rfl) rfl (fun _ _ _ h => h) (.inl ⟨rfl, fun W hS => by obtain ⟨s0, s1, s2, s3, s4⟩ := hS; go_simp⟩) q2 ?_
        refine wpAnyF_take (i := 3) (v := .int .i64 (xC pw 0)) (fuel := 13) rfl (by kernel_rfl) (by kernel_rfl) (by kernel_rfl) (by kernel_rfl) (by kernel_rfl) rfl (fun _ _ _ h => h) (.inl ⟨rfl, fun W hS => by obtain ⟨s0, s1, s2, s3, s4⟩ := hS; go_simp⟩) q2 ?_
        refine wpAnyF_take (i := 4) (v := .slice (some ⟨W.heap.size, 0, none⟩) 4 4) (fuel := 12) rfl (by kernel_rfl) (by kernel_rfl) (by kernel_rfl) (by kernel_rfl) (by kernel_rfl) rfl (fun _ _ _ h => h) (.inl ⟨rfl, fun W hS => by obtain ⟨s0, s1, s2, s3, s4⟩ := hS; go_simp⟩) q2 ?_
        refine wpAnyF_take (i := 5) (v := .pointer (some ⟨W.heap.size, 1, none⟩)) (fuel := 11) rfl (by kernel_rfl) (by kernel_rfl) (by kernel_rfl) (by kernel_rfl) (by kernel_rfl) rfl (fun _ _ _ h => h) (.inl ⟨rfl, fun W hS => by obtain ⟨s0, s1, s2, s3, s4⟩ := hS; go_simp⟩) q2 ?_
        refine wpAnyF_take (i := 6) (v := .int .i64 (xC pw 1)) (fuel := 10) rfl (by kernel_rfl) (by kernel_rfl) (by kernel_rfl) (by kernel_rfl) (by kernel_rfl) rfl (fun _ _ _ h => h) (.inl ⟨rfl, fun W hS => by obtain ⟨s0, s1, s2, s3, s4⟩ := hS; go_simp⟩) q2 ?_
        refine wpAnyF_take (i := 7) (v := .slice (some ⟨W.heap.size, 0, none⟩) 4 4) (fuel := 9) rfl (by kernel_rfl) (by kernel_rfl) (by kernel_rfl) (by kernel_rfl) (by kernel_rfl) rfl (fun _ _ _ h => h) (.inl ⟨rfl, fun W hS => by obtain ⟨s0, s1, s2, s3, s4⟩ := hS; go_simp⟩) q2 ?_
        refine wpAnyF_take (i := 8) (v := .pointer (some ⟨W.heap.size, 2, none⟩)) (fuel := 8) rfl (by kernel_rfl) (by kernel_rfl) (by kernel_rfl) (by kernel_rfl) (by kernel_rfl) rfl (fun _ _ _ h => h) (.inl ⟨rfl, fun W hS => by obtain ⟨s0, s1, s2, s3, s4⟩ := hS; go_simp⟩) q2 ?_
        refine wpAnyF_take (i := 9) (v := .int .i64 (xC pw 2)) (fuel := 7) rfl (by kernel_rfl) (by kernel_rfl) (by kernel_rfl) (by kernel_rfl) (by kernel_rfl) rfl (fun _ _ _ h => h) (.inl ⟨rfl, fun W hS => by obtain ⟨s0, s1, s2, s3, s4⟩ := hS; go_simp⟩) q2 ?_
        refine wpAnyF_take (i := 10) (v := .slice (some ⟨W.heap.size, 0, none⟩) 4 4) (fuel := 6) rfl (by kernel_rfl) (by kernel_rfl) (by kernel_rfl) (by kernel_rfl) (by kernel_rfl) rfl (fun _ _ _ h => h) (.inl ⟨rfl, fun W hS => by obtain ⟨s0, s1, s2, s3, s4⟩ := hS; go_simp⟩) q2 ?_
        refine wpAnyF_take (i := 11) (v := .pointer (some ⟨W.heap.size, 3, none⟩)) (fuel := 5) rfl (by kernel_rfl) (by kernel_rfl) (by kernel_rfl) (by kernel_rfl) (by kernel_rfl) rfl (fun _ _ _ h => h) (.inl ⟨rfl, fun W hS => by obtain ⟨s0, s1, s2, s3, s4⟩ := hS; go_simp⟩) q2 ?_
        refine wpAnyF_take (i := 12) (v := .int .i64 (xC pw 3)) (fuel := 4) rfl (by kernel_rfl) (by kernel_rfl) (by kernel_rfl) (by kernel_rfl) (by kernel_rfl) rfl (fun _ _ _ h => h) (.inl ⟨rfl, fun W hS => by obtain ⟨s0, s1, s2, s3, s4⟩ := hS; go_simp⟩) q2 ?_
        refine wpAnyF_take (i := 13) (v := .agg #[.int .i64 (xC pw 0), .int .i64 (xC pw 1), .int .i64 (xC pw 2), .int .i64 (xC pw 3)]) (fuel := 3) rfl (by kernel_rfl) (by kernel_rfl) (by kernel_rfl) (by kernel_rfl) (by kernel_rfl) rfl (fun _ _ _ h => h) (.inl ⟨rfl, fun W hS => by obtain ⟨s0, s1, s2, s3, s4⟩ := hS; go_simp⟩) q2 ?_
        generalize xC pw 0 = x0 at *
        generalize xC pw 1 = x1 at *
        generalize xC pw 2 = x2 at *
        generalize xC pw 3 = x3 at *
        have hx5d : Ext W5 wr.drew := hx8.drew
        refine wpAnyF_one (i := 14) (fuel := 2) rfl (by kernel_rfl) rfl fun K' hK' => ?_
        go_simp
        refine hK' _ _ (fun _ => ⟨(hx5d.alloc _).cell a1.cell, ((Ext.refl wr).drew.alloc _).cell l0, ((Ext.refl wr).drew.alloc _).cell l1, ((Ext.refl wr).drew.alloc _).cell l2, ((Ext.refl wr).drew.alloc _).cell l3⟩) ?_
        clear hK' K'
        have hxz := hx8.size
        obtain ⟨v', W7, hrun7, hO7, hg7, hB7⟩ := OwnG.append elemL 22 (a2.ext (hx5d.alloc (.cells #[.int .i64 x0, .int .i64 x1, .int .i64 x2, .int .i64 x3] 33))) (m := [(x0, x1, x2, x3)]) (P := some ⟨wr.drew.heap.size, 0, none⟩) (c := 1) (SlG.one elemL.hk _ rfl rfl) (fun e => by cases e) (by simp; omega) (by simp; omega) (by rw [World.size_alloc]; show _ ≤ wr.heap.size + 1; omega)
        refine wpAnyF_one (i := 15) (fuel := 1) rfl (by kernel_rfl) rfl fun K' hK' => ?_
        refine wp_append_at _ _ _ rfl _ _ rfl rfl hrun7 ?_
        have hx5a := hx5d.alloc (.cells #[.int .i64 x0, .int .i64 x1, .int .i64 x2, .int .i64 x3] 33)
        have hlw : ∀ q o, q < w.heap.size + 4 → W5.heap[q]? = some o → W7.heap[q]? = some o := fun q o hq ho => (hB7.block q hq).trans (hx5a.heap ho)
        have k4 : Boxed W7 w.heap.size 22 v := hlw _ _ (by omega) a1
        obtain ⟨P7, c7, rfl, _⟩ := hO7.slG elemL (by simp; omega)
        obtain ⟨n7, hn7⟩ : ∃ n7, (st ++ [(x0, x1, x2, x3)]).length = n7 := ⟨_, rfl⟩
        rw [hn7] at hrun7 hO7 ⊢
        have hwr : W.heap.size < wr.heap.size := by
          rcases Nat.lt_or_ge W.heap.size wr.heap.size with h | h
          · exact h
          · unfold World.cell? at l0; rw [Array.getElem?_eq_none h] at l0; cases l0
        have hB7c : W7.heap[W.heap.size]? = wr.heap[W.heap.size]? := by
          refine (hg7.block W.heap.size (by rw [World.size_alloc]; show _ < wr.heap.size + 1; omega) (fun e => ?_)).trans (hB_alloc _ _ _ (by show _ < wr.heap.size; exact hwr))
          have := (World.ownsRow.lt a2 _ e.symm).2
          omega
        have m0 : W7.cell? ⟨W.heap.size, 0, none⟩ = some (.int .i64 x0) := by unfold World.cell? at *; rw [hB7c]; exact l0
        have m1 : W7.cell? ⟨W.heap.size, 1, none⟩ = some (.int .i64 x1) := by unfold World.cell? at *; rw [hB7c]; exact l1
        have m2 : W7.cell? ⟨W.heap.size, 2, none⟩ = some (.int .i64 x2) := by unfold World.cell? at *; rw [hB7c]; exact l2
        have m3 : W7.cell? ⟨W.heap.size, 3, none⟩ = some (.int .i64 x3) := by unfold World.cell? at *; rw [hB7c]; exact l3
        refine hK' _ _ (fun _ => ⟨k4.cell, m0, m1, m2, m3⟩) ?_
        clear hK' K'
        have q7 := k4.cell
        have f7 := k4.frozen
        refine wpAnyF_one (i := 16) (fuel := 0) rfl (by kernel_rfl) rfl fun K' hK' => ?_
        go_simp
        refine hK' _ _ (fun h => by simp at h) ?_
        clear hK' K'
        refine wpAnyF_done (by kernel_rfl) ?_ 0
        have HNX := Lib.hid HRD.out
        gi_wp2
        have hx7 : Ext w W7 := ext_below (HS.out.x.trans hx5a) hB7 (by omega)
        have hz9 := HZ.out
        have hlow : ∀ q o, q < w.heap.size + 4 → q ≠ w.heap.size → W5.heap[q]? = some o → (W7.setCell ⟨w.heap.size, 0, none⟩ (.slice P7 n7 c7)).heap[q]? = some o := fun q o hq1 hq2 ho => (Below.heap_setCell _ _ _ _ hq2).trans (hlw _ _ hq1 ho)
        refine ⟨(hlow _ _ (by omega) (by omega) hD5).trans hD5.symm, (hlow _ _ (by omega) (by omega) hL5).trans hL5.symm, ?_, hlow _ _ (by omega) (by omega) h2⟩
        rw [HNX.out]
        exact ⟨⟨_, k4.set _, hO7.kept2 (Upd.setCell _ _ _ _) (by omega)⟩, hx7.setCell (by simp only; omega) _⟩
  case done =>
    rintro W ⟨h1, h2⟩ hD
    rw [hz4] at hD
    rw [readCN_all] at h1
    have hin := readC_in t.data.toList
    have hrl : (readC t.data.toList).length ≤ 10000 := by unfold readC; rw [List.length_map]; have := linesC_len t.data.toList; omega
    unfold parsePC
    rw [if_neg (by omega)]
    obtain ⟨L, hLL⟩ : ∃ L, readC t.data.toList = L := ⟨_, rfl⟩
    rw [hLL] at h1 hin hrl ⊢
    clear hLL hps0
    obtain ⟨v, a1, a2⟩ := h1.a
    obtain ⟨P, cap, rfl, hS⟩ := a2.slG elemL (by omega)
    have hPn : P = none → cap = 0 := by
      intro hp
      obtain ⟨P', c', e', _, hz⟩ := OwnG.res elemL a2 (by omega)
      injection e' with e1 e2 e3
      rw [e3]; exact hz (by rw [← e1]; exact hp)
    have hF := fun W' (hw : Ext W W') => fmt_any P cap L W' (hS.ext hw) hin (HL.out.ext (h1.x.trans hw))
    have ha1c := a1.cell
    refine wpAt_of_wp ?_
    by_cases he : t.data.toList = []
    · rw [if_pos (.inl he)]
      have et : t = ⟨#[]⟩ := ByteArray.ext (Array.ext' (by rw [he]))
      have q1 : (t.toList == (⟨#[]⟩ : ByteArray).toList) = true := by rw [et]; simp
      have q3 : t.toList = [] := by rw [Lib.toList_data, he]
      have q2 : (t.toList == []) = true := by rw [q3]; rfl
      clear hF he et
      go_wp2
      refine ⟨by simp, .inl ⟨_, _, rfl, run_takeDeferred hD, ?_⟩⟩
      exact ⟨.tuple #[.slice none 0 0, .int .i64 2], by simp [results, Tryz.results7, go_sem], ParsePostC.no _ _ _ (Upd.ext h1.x (grownBy_putObj' _ _ _) (by omega))⟩
    · have q4 : ¬ t.toList = [] := by rw [Lib.toList_data]; exact he
      have q2 : (t.toList == []) = false := by simpa using q4
      have q5 : (⟨#[]⟩ : ByteArray).toList = [] := by rw [Lib.toList_data]
      have q1 : (t.toList == (⟨#[]⟩ : ByteArray).toList) = false := by rw [q5]; exact q2
      have q6 : ¬ t = ⟨#[]⟩ := fun e => he (by rw [e])
      have q7 : t.toList.isEmpty = false := by rw [Lib.toList_data]; cases h : t.data.toList with
        | nil => exact absurd h he
        | cons x r => rfl
      by_cases hm : fmtC L = t.data.toList
      · have e1 : mkB (fmtC L) = t := by rw [hm]; rfl
        rw [e1] at hF
        rw [if_neg (by rintro (h | h); exact he h; exact h hm)]
        have ht2 : (t.toList != t.toList) = false := by simp
        clear hm e1 he
        go_wp2_with (go_at_call 5; refine (hF _ (Ext.refl _)).mono ?_; rintro e W6 ⟨rfl, hx6⟩; have k3 := hx6.cell ha1c)
        refine ⟨by simp, .inl ⟨_, _, rfl, run_takeDeferred (hx6.heap hD), ?_⟩⟩
        have hO := (a2.ext hx6).kept2 (grownBy_putObj' W6 (w.heap.size + 2) (.deferred none)) (by omega)
        obtain ⟨P', c', e', hS'⟩ := hO.slG elemL (by omega)
        injection e' with e1 e2 e3
        subst e1 e3
        exact ⟨.tuple #[.slice P L.length cap, .int .i64 0], by simp [results, Tryz.results7, go_sem], P, cap, rfl, hS', hPn, hin, Upd.ext (h1.x.trans hx6) (grownBy_putObj' _ _ _) (by omega)⟩
      · rw [if_pos (.inr hm)]
        have ht4 : ¬ (mkB (fmtC L)).toList = t.toList := by rw [Lib.toList_data, Lib.toList_data, mkB_toList]; exact hm
        have ht3 : ((mkB (fmtC L)).toList == t.toList) = false := by simpa using ht4
        have ht2 : ((mkB (fmtC L)).toList != t.toList) = true := by simpa using ht4
        have ht5 : ¬ mkB (fmtC L) = t := fun e => ht4 (by rw [e])
        have ht6 : decide ((mkB (fmtC L)).toList = t.toList) = false := decide_eq_false ht4
        generalize mkB (fmtC L) = FF at *
        clear hm he
        go_wp2_with (go_at_call 5; refine (hF _ (Ext.refl _)).mono ?_; rintro e W6 ⟨rfl, hx6⟩; have k3 := hx6.cell ha1c)
        refine ⟨by simp, .inl ⟨_, _, rfl, run_takeDeferred (hx6.heap hD), ?_⟩⟩
        exact ⟨.tuple #[.slice none 0 0, .int .i64 2], by simp [results, Tryz.results7, go_sem], ParsePostC.no _ _ _ (Upd.ext (h1.x.trans hx6) (grownBy_putObj' _ _ _) (by omega))⟩
end Go.Proofs.YtpobjheodlkkiaaGreatDoor
