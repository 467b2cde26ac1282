/- CaY (merged by group.py) -/
import Derived.Test.YtcbinafokhekmaaDoorQ12
namespace Go.Proofs.YtcbinafokhekmaaDoor
section
open Go.RowKit Go.Maps
set_option linter.unusedVariables false
set_option maxRecDepth 20000
set_option linter.unusedSimpArgs false
set_option linter.unusedSectionVars false
set_option maxRecDepth 100000
attribute [local go_sem] Oper.semAt_some

/-- a list does not lie in the box of the deferred -/
theorem SlG.off_def {α : Type} {cs : α → List Value} (hk : ∀ x, 0 < (cs x).length) {w : World} {P : Option Addr} {c : Nat} {l : List α} (h : SlG cs w P c l) {D : Nat} {z : Option (List Deferred)} (hD : w.heap[D]? = some (.deferred z)) : Off (fun i => i = D) P l := by
  intro hne b off e hb
  subst hb
  cases l with
  | nil => exact hne rfl
  | cons x l =>
    obtain ⟨g, o, e2, h1⟩ := h.at_ 0 x rfl
    rw [e] at e2
    injection e2 with e2
    injection e2 with e3 e4
    subst e3
    have := h1 0 _ (List.getElem?_eq_getElem (hk x))
    simp [World.cell?, hD] at this
theorem rawR_len (raw : List BkR) {f : Nat} (hf : f ≤ raw.length) : raw.length ≤ (rawR raw f).length ∧ (rawR raw f).length ≤ raw.length + 1 ∧ f < (rawR raw f).length := by
  unfold rawR
  split
  · simp; omega
  · omega
/-- what the variable holds before round i -/
def lastP (p : List Nat) (k : Nat) : Nat → Nat
  | 0 => k
  | i + 1 => atP p i
set_option maxHeartbeats 8000000 in
theorem put_any (F : Nat → Prop) (t h r : Nat) (P : Option Addr) (c : Nat) (raw : List BkR) (Pr : Option Addr) (cr : Nat) (row : List Vl) (key : Int) (w : World) (H : CtO w F t h r P c raw) (hT : FullT hdV hdH h r (absT raw)) (hl : raw.length ≤ 4000) (ht : Tab w) (hs : SlV w Pr cr row) (hnil : Pr = none → cr = 0) (hrl : row.length ≤ 100000) (hoF : Off F Pr row) :
    Calls Tryd.prog 40 #[.pointer (some ⟨t, 0, none⟩), .agg #[.slice Pr row.length cr, .int .i64 key]] w fun e w' => e = .returned (.tuple #[]) ∧ ∃ raw', absT raw' = putF h r (absT raw) ((pathOf (absT raw) (homeV row % h)).getD ((pathOf (absT raw) (homeV row % h)).length - 1) 0) (row, key) ∧ CtS w F t h r raw' w' := by
  obtain ⟨hh1, hh2, hr1, hr2⟩ := hT.hh
  have hk : homeV row % h < h := Nat.mod_lt _ (by omega)
  have hp := hT.path hk
  have HW := Lib.hid (hT.way hk)
  have hx0 := (Ext.refl w).alloc (.cells #[.slice Pr row.length cr, .int .i64 key] 36)
  have hbx := BoxN.new w 36 #[.slice Pr row.length cr, .int .i64 key]
  have hH := fun W (hx : Ext w W) => home_any Pr cr row h W (hs.ext hx) hh1 hh2 (ht.ext hx)
  have t0 := (H.box.ext hx0).cell (i := 0) rfl
  have b0 := hbx.cell (i := 0) rfl
  have HT := Lib.hid hT
  have HH := Lib.hid H
  have HP := Lib.hid hp
  have HEL := Lib.hid (show ∀ x ∈ raw, x.1.2.2.length ≤ 100000 from fun x hx => by
    obtain ⟨R, L, G⟩ := hT
    obtain ⟨b, hb⟩ := List.mem_iff_getElem?.1 hx
    have hb1 := (List.getElem?_eq_some_iff.1 hb).1
    have h1 := cntK_succ hb1
    have h2 := cntK_le raw (b + 1)
    have h3 := G.c500
    rw [nthBk_some hb1] at hb
    injection hb with hb
    rw [← hb]
    omega)
  generalize homeV row % h = k at *
  generalize hpp : pathOf (absT raw) k = p at *
  have HSR := Lib.hid hs
  clear hp hT hs
  refine calls_of_wpAt Tryd.func40 rfl ?_
  simp only [Tryd.ntmps40, List.size_toArray, List.length_cons, List.length_nil, Nat.reduceAdd, Nat.reduceSub, Array.replicate_succ, Array.replicate_zero, List.push_toArray, List.append_toArray, List.nil_append, List.cons_append]
  refine wpAt_seq_k (fun K hK => ?_)
  go_wp2
  generalize hW : w.alloc (.cells #[.slice Pr row.length cr, .int .i64 key] 36) = W at *
  have HSZ := Lib.hid (show W.heap.size = w.heap.size + 1 from by rw [← hW]; simp)
  clear hW
  have hxd := hx0.drew
  have hxa := hx0.drew.alloc (.cells #[.int .i64 0] 3)
  have t0a := ((Ext.refl W).drew.alloc (.cells #[.int .i64 0] 3)).cell t0
  have b0a := ((Ext.refl W).drew.alloc (.cells #[.int .i64 0] 3)).cell b0
  refine wpAt_seq_k (fun K hK => ?_)
  have key0 : ∀ (B : Nat) (W' : World), W.heap.size ≤ B → Boxed W' B 3 (.int .i64 k) → Ext W W' → K { tmps := ((.pointer (some ⟨t, 0, none⟩) : Value) :: .agg #[.slice Pr row.length cr, .int .i64 key] :: undef :: .pointer (some ⟨w.heap.size, 0, none⟩) :: .pointer (some ⟨B, 0, none⟩) :: undef :: undef :: .pointer (some ⟨w.heap.size, 0, none⟩) :: .slice Pr row.length cr :: .pointer (some ⟨t, 0, none⟩) :: .pointer (some ⟨t, 0, none⟩) :: .pointer (some ⟨t, 0, none⟩) :: .int .i64 h :: .int .i64 k :: List.replicate 53 undef).toArray, defers := [] } W' := by
    intro B W' hB hc hxW
    simp only [List.replicate_succ, List.replicate_zero]
    refine hK _ _ ?_
    clear hK K hH hxd hxa t0a b0a
    have bx1 : BoxN W' w.heap.size 36 #[.slice Pr row.length cr, .int .i64 key] := hbx.ext hxW
    have hxw := hx0.trans hxW
    have hcc := hc.cell
    have htlt := HH.out.Flt t HH.out.Ft
    have hBw : w.heap.size < B := by have := HSZ.out; omega
    have hBl : B < W'.heap.size := (Array.getElem?_eq_some_iff.1 (show W'.heap[B]? = some _ from hc)).1
    refine wpAt_seq ?_
    refine wpAt_seq_k (fun K hK => ?_)
    go_wp2_with (go_at_call 58; refine (run_any t k _).mono ?_; rintro e W2 ⟨rfl, rfl⟩)
    obtain ⟨W2, hW2⟩ : ∃ W2, (W'.alloc (.cells #[.pointer (some ⟨t, 0, none⟩)] 38)).alloc (.cells #[.int .i64 k] 3) = W2 := ⟨_, rfl⟩
    have hx2 : Ext W' W2 := hW2 ▸ ((Ext.refl W').alloc _).alloc _
    have hs2 : W2.heap.size = W'.heap.size + 2 := by rw [← hW2]; simp
    have b2 : Boxed W2 W'.heap.size 38 (.pointer (some ⟨t, 0, none⟩)) := by
      have := (Boxed.new W' 38 (.pointer (some ⟨t, 0, none⟩))).alloc (.cells #[.int .i64 k] 3)
      exact hW2 ▸ this
    have b3 : Boxed W2 (W'.heap.size + 1) 3 (.int .i64 k) := by
      have := Boxed.new (W'.alloc (.cells #[.pointer (some ⟨t, 0, none⟩)] 38)) 3 (.int .i64 k)
      rw [World.size_alloc] at this
      exact hW2 ▸ this
    have hel : ∀ x ∈ raw, x.1.2.2.length ≤ 100000 := HEL.out
    have hct := HH.out.ctr (by omega) hel
    have hR2 : RunK (W'.heap.size + 1) W'.heap.size t k h r P c raw W2 := ⟨b3.cell, b2.cell, hct.ext (hxw.trans hx2)⟩
    have hS := run_seq (W'.heap.size + 1) W'.heap.size t k h r P c raw p HW.out
    have hoff := hct.sl.lt
    have hcB : Boxed W2 B 3 (.int .i64 k) := hx2.heap hc
    have hxW2 := hxW.trans hx2
    rw [hW2]
    clear hW2 b2 b3
    have HR2 := Lib.hid hs2
    refine wpAt_block ?_
    refine wpAt_rangeFunc2 (hf := Tryd.func40) (gf := 74) (lb := #[.pointer (some ⟨W'.heap.size + 1, 0, none⟩), .pointer (some ⟨W'.heap.size, 0, none⟩)]) rfl (enters_of Tryd.func74 (by kernel_rfl) rfl) hS (fun _ => rfl)
      (fun i X => Boxed X B 3 (.int .i64 (lastP p k i : Nat)) ∧ Ext W X ∧ RunK (W'.heap.size + 1) W'.heap.size t k h r P c raw X)
      (fun _ _ _ => False)
      (fun i ch X => False)
      (fun i A C ⟨h1, h4, h5⟩ hx => ⟨hx.heap h1, h4.trans hx, h5.ext hx⟩)
      (fun _ _ _ _ h _ => h)
      (fun i A r1 r2 ⟨h1, h4, h5⟩ hl => ⟨(World.putObj_heap_other (by have := HR2.out; omega)).trans h1, Upd.ext h4 (grownBy_putObj' _ _ _) (by have := HR2.out; have := hxW2.size; omega), h5.upd (UpdF.of_upd (grownBy_putObj' _ _ _)) (by have := HR2.out; omega) (by have := HR2.out; omega) (by have := HR2.out; omega) (hoff.mono (fun i hi => by have := HR2.out; omega))⟩)
      (fun _ _ _ _ _ h _ => h)
      (fun i A h => h.2.2)
      ⟨hcB, hxW2, hR2⟩ ?round ?done (fun _ _ _ _ h _ => h.elim) (fun _ _ _ _ h _ => h.elim)
    case round =>
      rintro i X r0 ⟨h1, h4, h5⟩ hW hD hL hi
      have hr2 := HR2.out
      gi_wp2
      refine ⟨trivial, trivial, ?_⟩
      rintro W5 r' hW5
      have hL5 : W5.heap[W2.heap.size + 1]? = some (.loop r') := by rw [hW5]; exact World.putObj_heap_same (by omega)
      have hD5 : W5.heap[W2.heap.size]? = some (.deferred (some [])) := by rw [hW5, World.putObj_heap_other (by omega)]; exact hD
      replace h5 : RunK (W'.heap.size + 1) W'.heap.size t k h r P c raw W5 := by rw [hW5]; exact h5.upd (UpdF.of_upd (grownBy_putObj' _ _ _)) (by omega) (by omega) (by omega) (hoff.mono (fun i hi => by omega))
      replace h1 : Boxed W5 B 3 (.int .i64 (lastP p k i : Nat)) := by rw [hW5]; exact (World.putObj_heap_other (by omega)).trans h1
      replace h4 : Ext W W5 := by rw [hW5]; exact Upd.ext h4 (grownBy_putObj' _ _ _) (by have := hxW2.size; omega)
      clear hW5 hD hL
      have k1 := h1.cell
      have k2 := h1.frozen
      gi_wp2
      have hu := (UpdF.refl (fun j => j = B) W5).setCell (p := ⟨B, 0, none⟩) (.inl rfl) (.int .i64 (atP p i : Nat))
      exact ⟨(hu.heap hD5 (by omega)).trans hD5.symm, (hu.heap hL5 (by omega)).trans hL5.symm, h1.set _, hu.ext h4 (fun j hj => by omega), h5.upd hu (by omega) (by omega) (by omega) (hoff.mono (fun j hj => by omega))⟩
    case done =>
      rintro X ⟨h1, h4, h5⟩ hD
      refine wpAt_of_wp ?_
      have hr2 := HR2.out
      rw [hr2] at hD
      have hp0 := HP.out
      rw [show p.length = p.length - 1 + 1 from by omega] at h1
      change Boxed X B 3 (.int .i64 (atP p (p.length - 1) : Nat)) at h1
      have hxX := hx0.trans h4
      have HX := HH.out.ext hxX
      have heb : atP p (p.length - 1) < raw.length := by
        have := way_lt HW.out (atP p (p.length - 1)) (List.mem_of_getElem? (atP_some (by omega)))
        rwa [absT_len] at this
      have HPT := Lib.hid (show p.getD (p.length - 1) 0 = atP p (p.length - 1) from rfl)
      generalize atP p (p.length - 1) = le0 at *
      obtain ⟨g, c', hPe, _⟩ := HX.own.tight (by omega)
      injection hPe with hPe _ hce
      subst hPe hce
      have a1 := HX.box.cell (i := 1) rfl
      have a2 := HX.box.cell (i := 2) rfl
      have k1 := h1.cell
      have m0 := HX.own.cell elemBk.hk rfl le0 _ (nthBk_some heb) 0 _ rfl
      simp only [Nat.add_zero] at m0
      have cq1 : (le0 : Int) < raw.length := by omega
      have cq0 : (0 : Int) ≤ (le0 : Int) := by omega
      have HBX := Lib.hid h1
      have hsX : BoxN X w.heap.size 36 #[.slice Pr row.length cr, .int .i64 key] := hbx.ext h4
      have HEN := Lib.hid (HX.ents le0 _ (nthBk_some heb))
      by_cases hfull : (nthBk raw le0).1.2.2.length = r
      · have hne : ((nthBk raw le0).1.2.2.length : Int) = r := by omega
        have hff := freeF_is (h := h) (T := absT raw) (by
          obtain ⟨R, L, G⟩ := HT.out
          exact G.good.hT)
        obtain ⟨_, hff2, _⟩ := hff
        rw [absT_len] at hff2
        obtain ⟨hr1', hr2', hr3'⟩ := rawR_len raw hff2
        have HEQ := Lib.hid (show putF h r (absT raw) le0 (row, key) = (absT ((rawR raw (freeF h (absT raw))).set le0 ((nthBk (rawR raw (freeF h (absT raw))) le0).1, (freeF h (absT raw) : Nat)))).set (freeF h (absT raw)) ((bkt (absT ((rawR raw (freeF h (absT raw))).set le0 ((nthBk (rawR raw (freeF h (absT raw))) le0).1, (freeF h (absT raw) : Nat)))) (freeF h (absT raw))).1 ++ [(row, key)], (bkt (absT ((rawR raw (freeF h (absT raw))).set le0 ((nthBk (rawR raw (freeF h (absT raw))) le0).1, (freeF h (absT raw) : Nat)))) (freeF h (absT raw))).2) from by
          unfold putF
          rw [if_pos]
          · rw [absT_set, rawR_abs]
            have : bkA ((nthBk (rawR raw (freeF h (absT raw))) le0).1, ((freeF h (absT raw) : Nat) : Int)) = ((bkt (roomF (absT raw) (freeF h (absT raw))) le0).1, ((freeF h (absT raw) : Nat) : Int)) := by
              rw [← rawR_abs, absT_bkt (by omega)]
              rfl
            rw [this]
          · rw [absT_bkt heb]
            show (List.map hdA _).length = r
            rw [List.length_map]
            exact hfull)
        have hFree := fun W (hx : Ext X W) => free_any F t h r (some ⟨g, 0, none⟩) c raw W (HX.ext hx) HT.out (by omega)
        have HLE0 := Lib.hid (show ∀ x ∈ rawR raw (freeF h (absT raw)), x.1.2.2.length ≤ 100000 from fun x hx => by
          unfold rawR at hx
          split at hx
          · rcases List.mem_append.1 hx with h1 | h1
            · exact hel x h1
            · obtain rfl := List.mem_singleton.1 h1
              simp [bk0]
          · exact hel x hx)
        have HRO0 := Lib.hid (show ∀ x ∈ rawR raw (freeF h (absT raw)), ∀ y ∈ x.1.2.2, Off (fun i => w.heap.size ≤ i) y.1.1 y.1.2.2 from fun x hx => by
          unfold rawR at hx
          split at hx
          · rcases List.mem_append.1 hx with h1 | h1
            · exact fun y hy => (HH.out.rows x h1 y hy).1.lt vl_pos
            · obtain rfl := List.mem_singleton.1 h1
              intro y hy
              simp [bk0] at hy
          · exact fun y hy => (HH.out.rows x hx y hy).1.lt vl_pos)
        generalize freeF h (absT raw) = f at *
        generalize hraw6 : rawR raw f = raw6 at *
        clear hff2 hraw6
        go_wp2_with (fail)
        go_quiet (fail)
        go_wp2_with (go_at_call 59; refine (hFree _ ((Ext.refl X).drewN nq)).mono ?_; rintro e w6 ⟨rfl, hCS⟩)
        obtain ⟨P6, c6, F6, H6, q1, q2, q3⟩ := hCS
        have hXq := (Ext.refl X).drewN nq
        have hFB : ¬ F B := fun e => by have := HH.out.Flt _ e; omega
        have hFx : ¬ F w.heap.size := fun e => by have := HH.out.Flt _ e; omega
        have hFD : ¬ F (W'.heap.size + 2) := fun e => by have := HH.out.Flt _ e; omega
        have hB6 : Boxed w6 B 3 (.int .i64 (le0 : Nat)) := q3.heap (hXq.heap h1) hFB
        have hxb6 := (hsX.ext hXq).upd q3 hFx
        have hD6 := q3.heap (hXq.heap hD) hFD
        have hr6 := (HSR.out.ext (hxX.trans hXq)).upd q3 hoF
        have hU6 := (UpdF.of_ext (hxX.trans hXq) F).trans q3
        have hDX := (Array.getElem?_eq_some_iff.1 hD).1
        have hXs : X.heap.size ≤ (X.drewN nq).heap.size := hXq.size
        have hF6 : ∀ k, F6 k → F k ∨ X.heap.size ≤ k := fun k hk => (q2 k hk).imp id (fun h => by omega)
        obtain ⟨g6, c6', hPe6, _⟩ := H6.own.tight (by omega)
        injection hPe6 with hPe6 _ hce6
        subst hPe6 hce6
        have k2 := H6.box.cell (i := 2) rfl
        have kB := hB6.cell
        have m1 := H6.own.cell elemBk.hk rfl le0 _ (nthBk_some (show le0 < raw6.length by omega)) 1 _ rfl
        have kf := H6.own.frozen rfl (le0 * 2 + 1)
        have kf2 : w6.drew.frozen? ⟨g6, le0 * 2 + 1, none⟩ = false := kf
        obtain ⟨H7, u7⟩ := H6.next (i := le0) (by omega) (f : Nat)
        have cq1 : (le0 : Int) < raw6.length := by omega
        have HH7 := Lib.hid (H7.ext (Ext.refl _).drew)
        have HU7 := Lib.hid (u7.trans (UpdF.of_ext (Ext.refl _).drew F6))
        clear H7 u7 m0 a1 a2 k1 HEN hFree h1 h5 HX hD hsX hne hXq
        have hBX : B < X.heap.size := (Array.getElem?_eq_some_iff.1 (show X.heap[B]? = some _ from HBX.out)).1
        have hne6 : ¬ B = g6 := fun e => by
          rcases hF6 g6 (H6.FP _ rfl).1 with e2 | e2
          · exact hFB (e ▸ e2)
          · omega
        have hne6' : ¬ g6 = B := fun e => hne6 e.symm
        have kBf : w6.frozen? ⟨B, 0, none⟩ = false := hB6.frozen
        go_still_tail 8, (by kernel_rfl)
        go_wp2_with (fail)
        --YES
        have hsame : ∀ x ∈ raw6.set le0 ((nthBk raw6 le0).1, (f : Int)), ∃ z ∈ raw6, z.1 = x.1 := fun x hx => by
          rcases set_mem hx with h1 | rfl
          · exact ⟨x, h1, rfl⟩
          · exact ⟨_, nthBk_mem (show le0 < raw6.length by omega), rfl⟩
        have hub : UpdF (fun i => i = B) (w6.setCell ⟨g6, le0 * 2 + 1, none⟩ (.int .i64 (f : Nat))).drew (((w6.setCell ⟨g6, le0 * 2 + 1, none⟩ (.int .i64 (f : Nat))).setCell ⟨B, 0, none⟩ (.int .i64 (f : Nat))).drew) := ((UpdF.refl (fun i => i = B) ((w6.setCell ⟨g6, le0 * 2 + 1, none⟩ (.int .i64 (f : Nat))).drew)).setCell (p := ⟨B, 0, none⟩) (.inl rfl) (.int .i64 (f : Nat)))
        have hF1B : ¬ F6 B := fun e => (hF6 _ e).elim hFB (fun h => by omega)
        have hF1x : ¬ F6 w.heap.size := fun e => (hF6 _ e).elim hFx (fun h => by omega)
        have hF1D : ¬ F6 (W'.heap.size + 2) := fun e => (hF6 _ e).elim hFD (fun h => by omega)
        have hXw : w.heap.size ≤ X.heap.size := hxX.size
        have hY := HH7.out.upd hub (fun k hk e => hF1B (e ▸ hk)) (fun x hx y hy => by
          obtain ⟨z, hz, ez⟩ := hsame x hx
          exact (HRO0.out z hz y (ez ▸ hy)).mono (fun i hi => by omega))
        have hB7 : Boxed (w6.setCell ⟨g6, le0 * 2 + 1, none⟩ (.int .i64 (f : Nat))).drew B 3 (.int .i64 (le0 : Nat)) := HU7.out.heap hB6 hF1B
        have hBY : Boxed (((w6.setCell ⟨g6, le0 * 2 + 1, none⟩ (.int .i64 (f : Nat))).setCell ⟨B, 0, none⟩ (.int .i64 (f : Nat))).drew) B 3 (.int .i64 (f : Nat)) := hB7.set (.int .i64 (f : Nat))
        have hxb := (hxb6.upd HU7.out hF1x).upd hub (by omega)
        have hUY := (hU6.trans_new HU7.out (fun k hk => (hF6 k hk).imp id (fun h => by omega))).trans_new hub (fun k hk => .inr (by omega))
        have hDY := hub.heap (HU7.out.heap hD6 hF1D) (by omega)
        have hFF1 := q1
        have hFF2 : ∀ k, F6 k → F k ∨ w.heap.size ≤ k := fun k hk => (hF6 k hk).imp id (fun h => by omega)
        have hro0 := HSR.out.lt vl_pos
        have hrowY := (hr6.upd HU7.out ((hoF.or hro0).mono (fun k hk => (hF6 k hk).imp id (fun h => by omega)))).upd hub (hro0.mono (fun k hk => by omega))
        have he1 : f < (raw6.set le0 ((nthBk raw6 le0).1, (f : Int))).length := by rw [List.length_set]; omega
        have hlen1 : (raw6.set le0 ((nthBk raw6 le0).1, (f : Int))).length ≤ 5000 := by rw [List.length_set]; omega
        have HLE := Lib.hid (show (nthBk (raw6.set le0 ((nthBk raw6 le0).1, (f : Int))) f).1.2.2.length ≤ 100000 from by
          obtain ⟨z, hz, ez⟩ := hsame _ (nthBk_mem he1)
          rw [← ez]
          exact HLE0.out z hz)
        clear hsame hub hB7 hB6 hxb6 hD6 hr6 hU6 hXs q1 q2 q3 H6 k2 kB m1 kf kf2 kBf hro0 HU7 HH7 heb hne6 hne6' cq1 cq0 hr1' hr2' hr3'
        generalize raw6.set le0 ((nthBk raw6 le0).1, (f : Int)) = raw7 at *
        generalize ((w6.setCell ⟨g6, le0 * 2 + 1, none⟩ (.int .i64 (f : Nat))).setCell ⟨B, 0, none⟩ (.int .i64 (f : Nat))).drew = Y at *
        have s1 : Y.drew.cell? ⟨t, 2, none⟩ = _ := hY.box.cell (i := 2) rfl
        have s2 : Y.drew.cell? ⟨B, 0, none⟩ = _ := hBY.cell
        have m0 := hY.own.cell elemBk.hk rfl f _ (nthBk_some he1) 0 _ rfl
        have HEN := hY.ents f _ (nthBk_some he1)
        have HRW := Lib.hid (hY.rows _ (nthBk_mem he1))
        obtain ⟨zz, hBB⟩ : ∃ z, nthBk raw7 f = z := ⟨_, rfl⟩
        obtain ⟨⟨Pe, ce, le⟩, nx⟩ := zz
        rw [hBB] at m0 HEN HRW
        have HBB := Lib.hid hBB
        simp only [Nat.add_zero] at m0
        have s3 : Y.drew.cell? ⟨g6, f * 2, none⟩ = some (.slice Pe le.length ce) := m0
        have s4 : Y.drew.cell? ⟨w.heap.size, 0, none⟩ = _ := hxb.cell (i := 0) rfl
        have s5 : Y.drew.cell? ⟨w.heap.size, 1, none⟩ = _ := hxb.cell (i := 1) rfl
        have cq1 : (f : Int) < raw7.length := by omega
        have cq0 : (0 : Int) ≤ (f : Int) := by omega
        have hle5 : le.length ≤ 100000 := by have := HLE.out; rw [HBB.out] at this; exact this
        have hC := fun W hx => clonev_any Pr cr row W (hrowY.ext hx) hrl hnil
        have hxd : Ext Y Y.drew := (Ext.refl Y).drew
        clear m0 hBB
        refine wp_region_noPanic ?_
        refine wp_region_F (fun w' => w'.cell? ⟨t, 2, none⟩ = some (.slice (some ⟨g6, 0, none⟩) raw7.length c6) ∧ w'.cell? ⟨B, 0, none⟩ = some (.int .i64 (f : Nat)) ∧ w'.cell? ⟨g6, f * 2, none⟩ = some (.slice Pe le.length ce) ∧ w'.cell? ⟨w.heap.size, 0, none⟩ = some (.slice Pr row.length cr) ∧ w'.cell? ⟨w.heap.size, 1, none⟩ = some (.int .i64 key)) 23 (by kernel_rfl) ?_
        refine wpAnyF_take (i := 0) (v := .pointer (some ⟨t, 0, none⟩)) (fuel := 23) rfl (by kernel_rfl) (by kernel_rfl) (by kernel_rfl) (by kernel_rfl) (by kernel_rfl) rfl (fun _ _ _ h => h) (.inl ⟨rfl, fun W hS => by obtain ⟨e2, e3, e4, e5, e6⟩ := hS; go_simp⟩) ⟨s1, s2, s3, s4, s5⟩ ?_
        refine wpAnyF_take (i := 1) (v := .pointer (some ⟨t, 0, none⟩)) (fuel := 22) rfl (by kernel_rfl) (by kernel_rfl) (by kernel_rfl) (by kernel_rfl) (by kernel_rfl) rfl (fun _ _ _ h => h) (.inl ⟨rfl, fun W hS => by obtain ⟨e2, e3, e4, e5, e6⟩ := hS; go_simp⟩) ⟨s1, s2, s3, s4, s5⟩ ?_
        refine wpAnyF_take (i := 2) (v := .pointer (some ⟨t, 2, none⟩)) (fuel := 21) rfl (by kernel_rfl) (by kernel_rfl) (by kernel_rfl) (by kernel_rfl) (by kernel_rfl) rfl (fun _ _ _ h => h) (.inl ⟨rfl, fun W hS => by obtain ⟨e2, e3, e4, e5, e6⟩ := hS; go_simp⟩) ⟨s1, s2, s3, s4, s5⟩ ?_
        refine wpAnyF_take (i := 3) (v := .slice (some ⟨g6, 0, none⟩) raw7.length c6) (fuel := 20) rfl (by kernel_rfl) (by kernel_rfl) (by kernel_rfl) (by kernel_rfl) (by kernel_rfl) rfl (fun _ _ _ h => h) (.inl ⟨rfl, fun W hS => by obtain ⟨e2, e3, e4, e5, e6⟩ := hS; go_simp⟩) ⟨s1, s2, s3, s4, s5⟩ ?_
        refine wpAnyF_take (i := 4) (v := .int .i64 (f : Nat)) (fuel := 19) rfl (by kernel_rfl) (by kernel_rfl) (by kernel_rfl) (by kernel_rfl) (by kernel_rfl) rfl (fun _ _ _ h => h) (.inl ⟨rfl, fun W hS => by obtain ⟨e2, e3, e4, e5, e6⟩ := hS; go_simp⟩) ⟨s1, s2, s3, s4, s5⟩ ?_
        refine wpAnyF_take (i := 5) (v := .pointer (some ⟨t, 0, none⟩)) (fuel := 18) rfl (by kernel_rfl) (by kernel_rfl) (by kernel_rfl) (by kernel_rfl) (by kernel_rfl) rfl (fun _ _ _ h => h) (.inl ⟨rfl, fun W hS => by obtain ⟨e2, e3, e4, e5, e6⟩ := hS; go_simp⟩) ⟨s1, s2, s3, s4, s5⟩ ?_
        refine wpAnyF_take (i := 6) (v := .pointer (some ⟨t, 0, none⟩)) (fuel := 17) rfl (by kernel_rfl) (by kernel_rfl) (by kernel_rfl) (by kernel_rfl) (by kernel_rfl) rfl (fun _ _ _ h => h) (.inl ⟨rfl, fun W hS => by obtain ⟨e2, e3, e4, e5, e6⟩ := hS; go_simp⟩) ⟨s1, s2, s3, s4, s5⟩ ?_
        refine wpAnyF_take (i := 7) (v := .pointer (some ⟨t, 2, none⟩)) (fuel := 16) rfl (by kernel_rfl) (by kernel_rfl) (by kernel_rfl) (by kernel_rfl) (by kernel_rfl) rfl (fun _ _ _ h => h) (.inl ⟨rfl, fun W hS => by obtain ⟨e2, e3, e4, e5, e6⟩ := hS; go_simp⟩) ⟨s1, s2, s3, s4, s5⟩ ?_
        refine wpAnyF_take (i := 8) (v := .slice (some ⟨g6, 0, none⟩) raw7.length c6) (fuel := 15) rfl (by kernel_rfl) (by kernel_rfl) (by kernel_rfl) (by kernel_rfl) (by kernel_rfl) rfl (fun _ _ _ h => h) (.inl ⟨rfl, fun W hS => by obtain ⟨e2, e3, e4, e5, e6⟩ := hS; go_simp⟩) ⟨s1, s2, s3, s4, s5⟩ ?_
        refine wpAnyF_take (i := 9) (v := .int .i64 (f : Nat)) (fuel := 14) rfl (by kernel_rfl) (by kernel_rfl) (by kernel_rfl) (by kernel_rfl) (by kernel_rfl) rfl (fun _ _ _ h => h) (.inl ⟨rfl, fun W hS => by obtain ⟨e2, e3, e4, e5, e6⟩ := hS; go_simp⟩) ⟨s1, s2, s3, s4, s5⟩ ?_
        refine wpAnyF_take (i := 10) (v := .pointer (some ⟨g6, f * 2, none⟩)) (fuel := 13) rfl (by kernel_rfl) (by kernel_rfl) (by kernel_rfl) (by kernel_rfl) (by kernel_rfl) rfl (fun _ _ _ h => h) (.inl ⟨rfl, fun W hS => by obtain ⟨e2, e3, e4, e5, e6⟩ := hS; go_simp⟩) ⟨s1, s2, s3, s4, s5⟩ ?_
        refine wpAnyF_take (i := 11) (v := .pointer (some ⟨g6, f * 2, none⟩)) (fuel := 12) rfl (by kernel_rfl) (by kernel_rfl) (by kernel_rfl) (by kernel_rfl) (by kernel_rfl) rfl (fun _ _ _ h => h) (.inl ⟨rfl, fun W hS => by obtain ⟨e2, e3, e4, e5, e6⟩ := hS; go_simp⟩) ⟨s1, s2, s3, s4, s5⟩ ?_
        refine wpAnyF_take (i := 12) (v := .slice Pe le.length ce) (fuel := 11) rfl (by kernel_rfl) (by kernel_rfl) (by kernel_rfl) (by kernel_rfl) (by kernel_rfl) rfl (fun _ _ _ h => h) (.inl ⟨rfl, fun W hS => by obtain ⟨e2, e3, e4, e5, e6⟩ := hS; go_simp⟩) ⟨s1, s2, s3, s4, s5⟩ ?_
        refine wpAnyF_take (i := 13) (v := .pointer (some ⟨w.heap.size, 0, none⟩)) (fuel := 10) rfl (by kernel_rfl) (by kernel_rfl) (by kernel_rfl) (by kernel_rfl) (by kernel_rfl) rfl (fun _ _ _ h => h) (.inl ⟨rfl, fun W hS => by obtain ⟨e2, e3, e4, e5, e6⟩ := hS; go_simp⟩) ⟨s1, s2, s3, s4, s5⟩ ?_
        refine wpAnyF_take (i := 14) (v := .slice Pr row.length cr) (fuel := 9) rfl (by kernel_rfl) (by kernel_rfl) (by kernel_rfl) (by kernel_rfl) (by kernel_rfl) rfl (fun _ _ _ h => h) (.inl ⟨rfl, fun W hS => by obtain ⟨e2, e3, e4, e5, e6⟩ := hS; go_simp⟩) ⟨s1, s2, s3, s4, s5⟩ ?_
        refine wpAnyF_take (i := 16) (v := .pointer (some ⟨w.heap.size, 1, none⟩)) (fuel := 8) rfl (by kernel_rfl) (by kernel_rfl) (by kernel_rfl) (by kernel_rfl) (by kernel_rfl) rfl (fun _ _ _ h => h) (.inl ⟨rfl, fun W hS => by obtain ⟨e2, e3, e4, e5, e6⟩ := hS; go_simp⟩) ⟨s1, s2, s3, s4, s5⟩ ?_
        refine wpAnyF_take (i := 17) (v := .int .i64 key) (fuel := 7) rfl (by kernel_rfl) (by kernel_rfl) (by kernel_rfl) (by kernel_rfl) (by kernel_rfl) rfl (fun _ _ _ h => h) (.inl ⟨rfl, fun W hS => by obtain ⟨e2, e3, e4, e5, e6⟩ := hS; go_simp⟩) ⟨s1, s2, s3, s4, s5⟩ ?_
        refine wpAnyF_one (i := 15) (fuel := 6) rfl (by kernel_rfl) rfl fun K' hK => ?_
        go_simp
        refine (hC _ hxd).mono ?_
        rintro e w9 ⟨⟨v9, rfl, ho9⟩, x9⟩
        obtain ⟨P9, c9, rfl, hs9, hn9⟩ := ho9.read elemV (by omega)
        have s1 := x9.cell s1
        have s2 := x9.cell s2
        have s3 := x9.cell s3
        have s4 := x9.cell s4
        have s5 := x9.cell s5
        refine hK _ _ (fun _ => ⟨s1, s2, s3, s4, s5⟩) ?_
        clear hK K' hC
        refine wpAnyF_one (i := 18) (fuel := 5) rfl (by kernel_rfl) rfl fun K' hK => ?_
        go_simp
        refine hK _ _ (fun _ => ⟨s1, s2, s3, s4, s5⟩) ?_
        clear hK K'
        refine wpAnyF_one (i := 19) (fuel := 4) rfl (by kernel_rfl) rfl fun K' hK => ?_
        go_simp
        have xA := (Ext.refl w9).alloc (.cells #[.slice P9 row.length c9, .int .i64 key] 36)
        have s1 := xA.cell s1
        have s2 := xA.cell s2
        have s3 := xA.cell s3
        have s4 := xA.cell s4
        have s5 := xA.cell s5
        refine hK _ _ (fun _ => ⟨s1, s2, s3, s4, s5⟩) ?_
        clear hK K'
        have hxA := (hxd.trans x9).trans xA
        refine wpAnyF_one (i := 20) (fuel := 3) rfl (by kernel_rfl) rfl fun K' hK => ?_
        refine wpAppU_step (ops := #[]) elemHd (.tmp 56) (.tmp 63) rfl (v := .slice Pe le.length ce) (base := 0) rfl (HEN.ext hxA) (m := [((P9, c9, row), key)]) rfl (SlG.one elemHd.hk ((P9, c9, row), key) rfl rfl) (fun e => by cases e) (by simp; omega) (by simp; omega) (Nat.zero_le _) ?_
        intro v7 w7 ho7 hg7 hb7 hob7
        have hu7 := UpdF.of_grown hg7
        obtain ⟨P7, c7, rfl, hs7, hn7⟩ := ho7.read elemHd (by simp; omega)
        have hYA := hY.ext hxA
        have hPF : ∀ i, (Value.slice Pe le.length ce).ownBlock = some i → F6 i ∧ i ≠ t ∧ i ≠ g6 := fun i hi => by
          obtain ⟨a, e, e2⟩ := slice_own hi
          obtain ⟨f1, f2, f3⟩ := hY.Fe f _ a (nthBk_some he1) (by rw [HBB.out]; exact e)
          subst e2
          exact ⟨f1, f2, fun e3 => f3 _ rfl e3.symm⟩
        have hP7 : ∀ a, P7 = some a → (∃ a', Pe = some a' ∧ a'.block = a.block) ∨ (w9.alloc (.cells #[.slice P9 row.length c9, .int .i64 key] 36)).heap.size ≤ a.block := fun a ha => by
          rcases hob7 with e | e
          · rw [own_of ha] at e
            obtain ⟨a', e1, e2⟩ := slice_own e.symm
            exact .inl ⟨a', e1, e2⟩
          · rw [own_of ha] at e
            injection e with e
            exact .inr (Nat.le_of_eq e.symm)
        have hs9A := hs9.ext xA
        have h9lo : ∀ b off, P9 = some ⟨b, off, none⟩ → Y.heap.size ≤ b ∧ b < w9.heap.size := fun b off e => by
          subst e
          have := own_lt ho9 (g := b) rfl
          exact this
        have hszA : (w9.alloc (.cells #[.slice P9 row.length c9, .int .i64 key] 36)).heap.size = w9.heap.size + 1 := by simp
        have hsz9 : Y.heap.size ≤ w9.heap.size := x9.size
        generalize w9.alloc (.cells #[.slice P9 row.length c9, .int .i64 key] 36) = WA at *
        have hrow7 : ∀ y ∈ le ++ [((P9, c9, row), key)], SlV w7 y.1.1 y.1.2.1 y.1.2.2 ∧ (y.1.1 = none → y.1.2.1 = 0) ∧ Off (fun k => F6 k ∨ ∃ a, P7 = some a ∧ k = a.block) y.1.1 y.1.2.2 := by
          intro y hy
          rcases List.mem_append.1 hy with hm | hm
          · have hr1 := HRW.out y hm
            have hrA := hr1.1.ext hxA
            refine ⟨hrA.upd hu7 (hr1.2.2.mono (fun i hi => (hPF i hi).1)), hr1.2.1, (hr1.2.2.or (hrA.lt vl_pos)).mono (fun i hi => ?_)⟩
            rcases hi with hi | ⟨a, ha, rfl⟩
            · exact .inl hi
            · rcases hP7 a ha with ⟨a', e1', e2'⟩ | h2
              · exact .inl (hPF _ (e2' ▸ own_of e1')).1
              · exact .inr h2
          · obtain rfl := List.mem_singleton.1 hm
            refine ⟨hs9A.upd hu7 (fun _ b off e hb => ?_), hn9, fun _ b off e hb => ?_⟩
            · have h1 := h9lo b off e
              have h2 := hY.Flt _ (hPF _ hb).1
              omega
            · have h1 := h9lo b off e
              rcases hb with hb | ⟨a, ha, e2⟩
              · have h2 := hY.Flt _ hb
                omega
              · rcases hP7 a ha with ⟨a', e1', e2'⟩ | h2
                · have h3 := hY.Flt _ (hPF _ (e2' ▸ own_of e1')).1
                  omega
                · omega
        obtain ⟨z1, z2, z3, z4⟩ := hYA.setE (i := f) (w7 := w7) (G := fun i => (Value.slice Pe le.length ce).ownBlock = some i) he1 ho7 hu7 (fun k hk => by rw [HBB.out]; exact slice_own hk) (fun a ha => by rw [HBB.out]; exact hP7 a ha) hrow7
        rw [HBB.out] at z1 z3
        have s1 := hu7.cell s1 (fun e => (hPF _ e).2.1 rfl)
        have s2 := hu7.cell s2 (fun e => hF1B (hPF _ e).1)
        have s3 := hu7.cell s3 (fun e => (hPF _ e).2.2 rfl)
        have s4 := hu7.cell s4 (fun e => hF1x (hPF _ e).1)
        have s5 := hu7.cell s5 (fun e => hF1x (hPF _ e).1)
        refine hK _ _ (fun _ => ⟨s1, s2, s3, s4, s5⟩) ?_
        clear hK K'
        refine wpAnyF_one (i := 21) (fuel := 2) rfl (by kernel_rfl) rfl fun K' hK => ?_
        go_simp
        refine hK _ _ (fun _ => ⟨s1, s2, s3, s4, s5⟩) ?_
        clear hK K'
        refine wpAnyF_one (i := 22) (fuel := 1) rfl (by kernel_rfl) rfl fun K' hK => ?_
        go_simp
        refine hK _ _ (fun _ => ⟨s1, s2, s3, s4, s5⟩) ?_
        clear hK K'
        refine wpAnyF_one (i := 23) (fuel := 0) rfl (by kernel_rfl) rfl fun K' hK => ?_
        go_simp
        refine hK _ _ (fun h => by simp at h) ?_
        clear hK K'
        refine wpAnyF_done (by kernel_rfl) ?_ 0
        refine NoPanic.normal ?_
        have hl1 : (le ++ [((P9, c9, row), key)]).length = le.length + 1 := by simp
        rw [hl1] at z3 z4
        have hDZ := (hxA.heap hDY)
        replace hDZ := z4.heap hDZ hF1D
        refine ⟨by simp, .inl ⟨_, _, rfl, run_takeDeferred hDZ, ?_⟩⟩
        refine ⟨.tuple #[], results_none rfl _ _ _, rfl, raw7.set f ((P7, c7, le ++ [((P9, c9, row), key)]), nx), ?_, ?_⟩
        · rw [HPT.out, HEQ.out, absT_set, absT_bkt he1, HBB.out]
          unfold bkA
          simp [hdA]
        · have hu9 := UpdF.of_upd (grownBy_putObj' (w7.setCell ⟨g6, f * 2, none⟩ (.slice P7 (le.length + 1) c7)) (W'.heap.size + 2) (.deferred none))
          have hYD := (Array.getElem?_eq_some_iff.1 hDY).1
          refine ⟨_, _, fun k => F6 k ∨ ∃ a, P7 = some a ∧ k = a.block, z3.upd hu9 (fun k hk e => ?_) (fun x hx y hy => SlG.off_def vl_pos (z3.rows x hx y hy).1 hDZ), fun k hk => .inl (hFF1 k hk), fun k hk => ?_, ?_⟩
          · subst e
            rcases hk with hk | ⟨a, ha, e⟩
            · exact hF1D hk
            · rcases hP7 a ha with ⟨a', e1', e2'⟩ | h2
              · exact hF1D (by rw [e]; exact (hPF _ (e2' ▸ own_of e1')).1)
              · omega
          · rcases hk with hk | ⟨a, ha, rfl⟩
            · exact hFF2 k hk
            · rcases hP7 a ha with ⟨a', e1', e2'⟩ | h2
              · exact hFF2 _ (hPF _ (e2' ▸ own_of e1')).1
              · have := hUY.size
                exact .inr (by omega)
          · exact (hUY.trans_new ((UpdF.of_ext hxA _).trans z4) (fun k hk => hFF2 k hk)).trans_new hu9 (fun k hk => .inr (by have := hxw.size; omega))
      · have hne : ¬ ((nthBk raw le0).1.2.2.length : Int) = r := by omega
        have HEQ := Lib.hid (show putF h r (absT raw) le0 (row, key) = (absT raw).set le0 ((bkt (absT raw) le0).1 ++ [(row, key)], (bkt (absT raw) le0).2) from by
          unfold putF
          rw [if_neg]
          rw [absT_bkt heb]
          show ¬ (List.map hdA _).length = r
          rw [List.length_map]
          exact hfull)
        have HLE0 := Lib.hid (hel _ (nthBk_mem heb))
        clear hfull
        go_wp2_with (fail)
        go_quiet (fail)
        go_wp2_with (fail)
        have hxq := (Ext.refl X).drewN nq
        have hY := HX.ext hxq
        have hBY : Boxed (X.drewN nq) B 3 (.int .i64 (le0 : Nat)) := hxq.heap h1
        have hxb := hsX.ext hxq
        have hUY := UpdF.of_ext (hxX.trans hxq) F
        have hDY := hxq.heap hD
        have hF1B : ¬ F B := fun e => by have := HH.out.Flt _ e; omega
        have hF1x : ¬ F w.heap.size := fun e => by have := HH.out.Flt _ e; omega
        have hF1D : ¬ F (W'.heap.size + 2) := fun e => by have := HH.out.Flt _ e; omega
        have hFF1 : ∀ k, F k → F k := fun _ h => h
        have hFF2 : ∀ k, F k → F k ∨ w.heap.size ≤ k := fun _ h => .inl h
        have hrowY := HSR.out.ext (hxX.trans hxq)
        have he1 := heb
        have hlen1 : raw.length ≤ 5000 := by omega
        clear HX HEN hxq hsX k1 m0 a1 a2 hD h1 h4 h5 hne heb
        generalize X.drewN nq = Y at *
--NO
        have HLE := HLE0
        have s1 : Y.drew.cell? ⟨t, 2, none⟩ = _ := hY.box.cell (i := 2) rfl
        have s2 : Y.drew.cell? ⟨B, 0, none⟩ = _ := hBY.cell
        have m0 := hY.own.cell elemBk.hk rfl le0 _ (nthBk_some he1) 0 _ rfl
        have HEN := hY.ents le0 _ (nthBk_some he1)
        have HRW := Lib.hid (hY.rows _ (nthBk_mem he1))
        obtain ⟨zz, hBB⟩ : ∃ z, nthBk raw le0 = z := ⟨_, rfl⟩
        obtain ⟨⟨Pe, ce, le⟩, nx⟩ := zz
        rw [hBB] at m0 HEN HRW
        have HBB := Lib.hid hBB
        simp only [Nat.add_zero] at m0
        have s3 : Y.drew.cell? ⟨g, le0 * 2, none⟩ = some (.slice Pe le.length ce) := m0
        have s4 : Y.drew.cell? ⟨w.heap.size, 0, none⟩ = _ := hxb.cell (i := 0) rfl
        have s5 : Y.drew.cell? ⟨w.heap.size, 1, none⟩ = _ := hxb.cell (i := 1) rfl
        have cq1 : (le0 : Int) < raw.length := by omega
        have cq0 : (0 : Int) ≤ (le0 : Int) := by omega
        have hle5 : le.length ≤ 100000 := by have := HLE.out; rw [HBB.out] at this; exact this
        have hC := fun W hx => clonev_any Pr cr row W (hrowY.ext hx) hrl hnil
        have hxd : Ext Y Y.drew := (Ext.refl Y).drew
        clear m0 hBB
        refine wp_region_noPanic ?_
        refine wp_region_F (fun w' => w'.cell? ⟨t, 2, none⟩ = some (.slice (some ⟨g, 0, none⟩) raw.length c) ∧ w'.cell? ⟨B, 0, none⟩ = some (.int .i64 (le0 : Nat)) ∧ w'.cell? ⟨g, le0 * 2, none⟩ = some (.slice Pe le.length ce) ∧ w'.cell? ⟨w.heap.size, 0, none⟩ = some (.slice Pr row.length cr) ∧ w'.cell? ⟨w.heap.size, 1, none⟩ = some (.int .i64 key)) 23 (by kernel_rfl) ?_
        refine wpAnyF_take (i := 0) (v := .pointer (some ⟨t, 0, none⟩)) (fuel := 23) rfl (by kernel_rfl) (by kernel_rfl) (by kernel_rfl) (by kernel_rfl) (by kernel_rfl) rfl (fun _ _ _ h => h) (.inl ⟨rfl, fun W hS => by obtain ⟨e2, e3, e4, e5, e6⟩ := hS; go_simp⟩) ⟨s1, s2, s3, s4, s5⟩ ?_
        refine wpAnyF_take (i := 1) (v := .pointer (some ⟨t, 0, none⟩)) (fuel := 22) rfl (by kernel_rfl) (by kernel_rfl) (by kernel_rfl) (by kernel_rfl) (by kernel_rfl) rfl (fun _ _ _ h => h) (.inl ⟨rfl, fun W hS => by obtain ⟨e2, e3, e4, e5, e6⟩ := hS; go_simp⟩) ⟨s1, s2, s3, s4, s5⟩ ?_
        refine wpAnyF_take (i := 2) (v := .pointer (some ⟨t, 2, none⟩)) (fuel := 21) rfl (by kernel_rfl) (by kernel_rfl) (by kernel_rfl) (by kernel_rfl) (by kernel_rfl) rfl (fun _ _ _ h => h) (.inl ⟨rfl, fun W hS => by obtain ⟨e2, e3, e4, e5, e6⟩ := hS; go_simp⟩) ⟨s1, s2, s3, s4, s5⟩ ?_
        refine wpAnyF_take (i := 3) (v := .slice (some ⟨g, 0, none⟩) raw.length c) (fuel := 20) rfl (by kernel_rfl) (by kernel_rfl) (by kernel_rfl) (by kernel_rfl) (by kernel_rfl) rfl (fun _ _ _ h => h) (.inl ⟨rfl, fun W hS => by obtain ⟨e2, e3, e4, e5, e6⟩ := hS; go_simp⟩) ⟨s1, s2, s3, s4, s5⟩ ?_
        refine wpAnyF_take (i := 4) (v := .int .i64 (le0 : Nat)) (fuel := 19) rfl (by kernel_rfl) (by kernel_rfl) (by kernel_rfl) (by kernel_rfl) (by kernel_rfl) rfl (fun _ _ _ h => h) (.inl ⟨rfl, fun W hS => by obtain ⟨e2, e3, e4, e5, e6⟩ := hS; go_simp⟩) ⟨s1, s2, s3, s4, s5⟩ ?_
        refine wpAnyF_take (i := 5) (v := .pointer (some ⟨t, 0, none⟩)) (fuel := 18) rfl (by kernel_rfl) (by kernel_rfl) (by kernel_rfl) (by kernel_rfl) (by kernel_rfl) rfl (fun _ _ _ h => h) (.inl ⟨rfl, fun W hS => by obtain ⟨e2, e3, e4, e5, e6⟩ := hS; go_simp⟩) ⟨s1, s2, s3, s4, s5⟩ ?_
        refine wpAnyF_take (i := 6) (v := .pointer (some ⟨t, 0, none⟩)) (fuel := 17) rfl (by kernel_rfl) (by kernel_rfl) (by kernel_rfl) (by kernel_rfl) (by kernel_rfl) rfl (fun _ _ _ h => h) (.inl ⟨rfl, fun W hS => by obtain ⟨e2, e3, e4, e5, e6⟩ := hS; go_simp⟩) ⟨s1, s2, s3, s4, s5⟩ ?_
        refine wpAnyF_take (i := 7) (v := .pointer (some ⟨t, 2, none⟩)) (fuel := 16) rfl (by kernel_rfl) (by kernel_rfl) (by kernel_rfl) (by kernel_rfl) (by kernel_rfl) rfl (fun _ _ _ h => h) (.inl ⟨rfl, fun W hS => by obtain ⟨e2, e3, e4, e5, e6⟩ := hS; go_simp⟩) ⟨s1, s2, s3, s4, s5⟩ ?_
        refine wpAnyF_take (i := 8) (v := .slice (some ⟨g, 0, none⟩) raw.length c) (fuel := 15) rfl (by kernel_rfl) (by kernel_rfl) (by kernel_rfl) (by kernel_rfl) (by kernel_rfl) rfl (fun _ _ _ h => h) (.inl ⟨rfl, fun W hS => by obtain ⟨e2, e3, e4, e5, e6⟩ := hS; go_simp⟩) ⟨s1, s2, s3, s4, s5⟩ ?_
        refine wpAnyF_take (i := 9) (v := .int .i64 (le0 : Nat)) (fuel := 14) rfl (by kernel_rfl) (by kernel_rfl) (by kernel_rfl) (by kernel_rfl) (by kernel_rfl) rfl (fun _ _ _ h => h) (.inl ⟨rfl, fun W hS => by obtain ⟨e2, e3, e4, e5, e6⟩ := hS; go_simp⟩) ⟨s1, s2, s3, s4, s5⟩ ?_
        refine wpAnyF_take (i := 10) (v := .pointer (some ⟨g, le0 * 2, none⟩)) (fuel := 13) rfl (by kernel_rfl) (by kernel_rfl) (by kernel_rfl) (by kernel_rfl) (by kernel_rfl) rfl (fun _ _ _ h => h) (.inl ⟨rfl, fun W hS => by obtain ⟨e2, e3, e4, e5, e6⟩ := hS; go_simp⟩) ⟨s1, s2, s3, s4, s5⟩ ?_
        refine wpAnyF_take (i := 11) (v := .pointer (some ⟨g, le0 * 2, none⟩)) (fuel := 12) rfl (by kernel_rfl) (by kernel_rfl) (by kernel_rfl) (by kernel_rfl) (by kernel_rfl) rfl (fun _ _ _ h => h) (.inl ⟨rfl, fun W hS => by obtain ⟨e2, e3, e4, e5, e6⟩ := hS; go_simp⟩) ⟨s1, s2, s3, s4, s5⟩ ?_
        refine wpAnyF_take (i := 12) (v := .slice Pe le.length ce) (fuel := 11) rfl (by kernel_rfl) (by kernel_rfl) (by kernel_rfl) (by kernel_rfl) (by kernel_rfl) rfl (fun _ _ _ h => h) (.inl ⟨rfl, fun W hS => by obtain ⟨e2, e3, e4, e5, e6⟩ := hS; go_simp⟩) ⟨s1, s2, s3, s4, s5⟩ ?_
        refine wpAnyF_take (i := 13) (v := .pointer (some ⟨w.heap.size, 0, none⟩)) (fuel := 10) rfl (by kernel_rfl) (by kernel_rfl) (by kernel_rfl) (by kernel_rfl) (by kernel_rfl) rfl (fun _ _ _ h => h) (.inl ⟨rfl, fun W hS => by obtain ⟨e2, e3, e4, e5, e6⟩ := hS; go_simp⟩) ⟨s1, s2, s3, s4, s5⟩ ?_
        refine wpAnyF_take (i := 14) (v := .slice Pr row.length cr) (fuel := 9) rfl (by kernel_rfl) (by kernel_rfl) (by kernel_rfl) (by kernel_rfl) (by kernel_rfl) rfl (fun _ _ _ h => h) (.inl ⟨rfl, fun W hS => by obtain ⟨e2, e3, e4, e5, e6⟩ := hS; go_simp⟩) ⟨s1, s2, s3, s4, s5⟩ ?_
        refine wpAnyF_take (i := 16) (v := .pointer (some ⟨w.heap.size, 1, none⟩)) (fuel := 8) rfl (by kernel_rfl) (by kernel_rfl) (by kernel_rfl) (by kernel_rfl) (by kernel_rfl) rfl (fun _ _ _ h => h) (.inl ⟨rfl, fun W hS => by obtain ⟨e2, e3, e4, e5, e6⟩ := hS; go_simp⟩) ⟨s1, s2, s3, s4, s5⟩ ?_
        refine wpAnyF_take (i := 17) (v := .int .i64 key) (fuel := 7) rfl (by kernel_rfl) (by kernel_rfl) (by kernel_rfl) (by kernel_rfl) (by kernel_rfl) rfl (fun _ _ _ h => h) (.inl ⟨rfl, fun W hS => by obtain ⟨e2, e3, e4, e5, e6⟩ := hS; go_simp⟩) ⟨s1, s2, s3, s4, s5⟩ ?_
        refine wpAnyF_one (i := 15) (fuel := 6) rfl (by kernel_rfl) rfl fun K' hK => ?_
        go_simp
        refine (hC _ hxd).mono ?_
        rintro e w9 ⟨⟨v9, rfl, ho9⟩, x9⟩
        obtain ⟨P9, c9, rfl, hs9, hn9⟩ := ho9.read elemV (by omega)
        have s1 := x9.cell s1
        have s2 := x9.cell s2
        have s3 := x9.cell s3
        have s4 := x9.cell s4
        have s5 := x9.cell s5
        refine hK _ _ (fun _ => ⟨s1, s2, s3, s4, s5⟩) ?_
        clear hK K' hC
        refine wpAnyF_one (i := 18) (fuel := 5) rfl (by kernel_rfl) rfl fun K' hK => ?_
        go_simp
        refine hK _ _ (fun _ => ⟨s1, s2, s3, s4, s5⟩) ?_
        clear hK K'
        refine wpAnyF_one (i := 19) (fuel := 4) rfl (by kernel_rfl) rfl fun K' hK => ?_
        go_simp
        have xA := (Ext.refl w9).alloc (.cells #[.slice P9 row.length c9, .int .i64 key] 36)
        have s1 := xA.cell s1
        have s2 := xA.cell s2
        have s3 := xA.cell s3
        have s4 := xA.cell s4
        have s5 := xA.cell s5
        refine hK _ _ (fun _ => ⟨s1, s2, s3, s4, s5⟩) ?_
        clear hK K'
        have hxA := (hxd.trans x9).trans xA
        refine wpAnyF_one (i := 20) (fuel := 3) rfl (by kernel_rfl) rfl fun K' hK => ?_
        refine wpAppU_step (ops := #[]) elemHd (.tmp 56) (.tmp 63) rfl (v := .slice Pe le.length ce) (base := 0) rfl (HEN.ext hxA) (m := [((P9, c9, row), key)]) rfl (SlG.one elemHd.hk ((P9, c9, row), key) rfl rfl) (fun e => by cases e) (by simp; omega) (by simp; omega) (Nat.zero_le _) ?_
        intro v7 w7 ho7 hg7 hb7 hob7
        have hu7 := UpdF.of_grown hg7
        obtain ⟨P7, c7, rfl, hs7, hn7⟩ := ho7.read elemHd (by simp; omega)
        have hYA := hY.ext hxA
        have hPF : ∀ i, (Value.slice Pe le.length ce).ownBlock = some i → F i ∧ i ≠ t ∧ i ≠ g := fun i hi => by
          obtain ⟨a, e, e2⟩ := slice_own hi
          obtain ⟨f1, f2, f3⟩ := hY.Fe le0 _ a (nthBk_some he1) (by rw [HBB.out]; exact e)
          subst e2
          exact ⟨f1, f2, fun e3 => f3 _ rfl e3.symm⟩
        have hP7 : ∀ a, P7 = some a → (∃ a', Pe = some a' ∧ a'.block = a.block) ∨ (w9.alloc (.cells #[.slice P9 row.length c9, .int .i64 key] 36)).heap.size ≤ a.block := fun a ha => by
          rcases hob7 with e | e
          · rw [own_of ha] at e
            obtain ⟨a', e1, e2⟩ := slice_own e.symm
            exact .inl ⟨a', e1, e2⟩
          · rw [own_of ha] at e
            injection e with e
            exact .inr (Nat.le_of_eq e.symm)
        have hs9A := hs9.ext xA
        have h9lo : ∀ b off, P9 = some ⟨b, off, none⟩ → Y.heap.size ≤ b ∧ b < w9.heap.size := fun b off e => by
          subst e
          have := own_lt ho9 (g := b) rfl
          exact this
        have hszA : (w9.alloc (.cells #[.slice P9 row.length c9, .int .i64 key] 36)).heap.size = w9.heap.size + 1 := by simp
        have hsz9 : Y.heap.size ≤ w9.heap.size := x9.size
        generalize w9.alloc (.cells #[.slice P9 row.length c9, .int .i64 key] 36) = WA at *
        have hrow7 : ∀ y ∈ le ++ [((P9, c9, row), key)], SlV w7 y.1.1 y.1.2.1 y.1.2.2 ∧ (y.1.1 = none → y.1.2.1 = 0) ∧ Off (fun k => F k ∨ ∃ a, P7 = some a ∧ k = a.block) y.1.1 y.1.2.2 := by
          intro y hy
          rcases List.mem_append.1 hy with hm | hm
          · have hr1 := HRW.out y hm
            have hrA := hr1.1.ext hxA
            refine ⟨hrA.upd hu7 (hr1.2.2.mono (fun i hi => (hPF i hi).1)), hr1.2.1, (hr1.2.2.or (hrA.lt vl_pos)).mono (fun i hi => ?_)⟩
            rcases hi with hi | ⟨a, ha, rfl⟩
            · exact .inl hi
            · rcases hP7 a ha with ⟨a', e1', e2'⟩ | h2
              · exact .inl (hPF _ (e2' ▸ own_of e1')).1
              · exact .inr h2
          · obtain rfl := List.mem_singleton.1 hm
            refine ⟨hs9A.upd hu7 (fun _ b off e hb => ?_), hn9, fun _ b off e hb => ?_⟩
            · have h1 := h9lo b off e
              have h2 := hY.Flt _ (hPF _ hb).1
              omega
            · have h1 := h9lo b off e
              rcases hb with hb | ⟨a, ha, e2⟩
              · have h2 := hY.Flt _ hb
                omega
              · rcases hP7 a ha with ⟨a', e1', e2'⟩ | h2
                · have h3 := hY.Flt _ (hPF _ (e2' ▸ own_of e1')).1
                  omega
                · omega
        obtain ⟨z1, z2, z3, z4⟩ := hYA.setE (i := le0) (w7 := w7) (G := fun i => (Value.slice Pe le.length ce).ownBlock = some i) he1 ho7 hu7 (fun k hk => by rw [HBB.out]; exact slice_own hk) (fun a ha => by rw [HBB.out]; exact hP7 a ha) hrow7
        rw [HBB.out] at z1 z3
        have s1 := hu7.cell s1 (fun e => (hPF _ e).2.1 rfl)
        have s2 := hu7.cell s2 (fun e => hF1B (hPF _ e).1)
        have s3 := hu7.cell s3 (fun e => (hPF _ e).2.2 rfl)
        have s4 := hu7.cell s4 (fun e => hF1x (hPF _ e).1)
        have s5 := hu7.cell s5 (fun e => hF1x (hPF _ e).1)
        refine hK _ _ (fun _ => ⟨s1, s2, s3, s4, s5⟩) ?_
        clear hK K'
        refine wpAnyF_one (i := 21) (fuel := 2) rfl (by kernel_rfl) rfl fun K' hK => ?_
        go_simp
        refine hK _ _ (fun _ => ⟨s1, s2, s3, s4, s5⟩) ?_
        clear hK K'
        refine wpAnyF_one (i := 22) (fuel := 1) rfl (by kernel_rfl) rfl fun K' hK => ?_
        go_simp
        refine hK _ _ (fun _ => ⟨s1, s2, s3, s4, s5⟩) ?_
        clear hK K'
        refine wpAnyF_one (i := 23) (fuel := 0) rfl (by kernel_rfl) rfl fun K' hK => ?_
        go_simp
        refine hK _ _ (fun h => by simp at h) ?_
        clear hK K'
        refine wpAnyF_done (by kernel_rfl) ?_ 0
        refine NoPanic.normal ?_
        have hl1 : (le ++ [((P9, c9, row), key)]).length = le.length + 1 := by simp
        rw [hl1] at z3 z4
        have hDZ := (hxA.heap hDY)
        replace hDZ := z4.heap hDZ hF1D
        refine ⟨by simp, .inl ⟨_, _, rfl, run_takeDeferred hDZ, ?_⟩⟩
        refine ⟨.tuple #[], results_none rfl _ _ _, rfl, raw.set le0 ((P7, c7, le ++ [((P9, c9, row), key)]), nx), ?_, ?_⟩
        · rw [HPT.out, HEQ.out, absT_set, absT_bkt he1, HBB.out]
          unfold bkA
          simp [hdA]
        · have hu9 := UpdF.of_upd (grownBy_putObj' (w7.setCell ⟨g, le0 * 2, none⟩ (.slice P7 (le.length + 1) c7)) (W'.heap.size + 2) (.deferred none))
          have hYD := (Array.getElem?_eq_some_iff.1 hDY).1
          refine ⟨_, _, fun k => F k ∨ ∃ a, P7 = some a ∧ k = a.block, z3.upd hu9 (fun k hk e => ?_) (fun x hx y hy => SlG.off_def vl_pos (z3.rows x hx y hy).1 hDZ), fun k hk => .inl (hFF1 k hk), fun k hk => ?_, ?_⟩
          · subst e
            rcases hk with hk | ⟨a, ha, e⟩
            · exact hF1D hk
            · rcases hP7 a ha with ⟨a', e1', e2'⟩ | h2
              · exact hF1D (by rw [e]; exact (hPF _ (e2' ▸ own_of e1')).1)
              · omega
          · rcases hk with hk | ⟨a, ha, rfl⟩
            · exact hFF2 k hk
            · rcases hP7 a ha with ⟨a', e1', e2'⟩ | h2
              · exact hFF2 _ (hPF _ (e2' ▸ own_of e1')).1
              · have := hUY.size
                exact .inr (by omega)
          · exact (hUY.trans_new ((UpdF.of_ext hxA _).trans z4) (fun k hk => hFF2 k hk)).trans_new hu9 (fun k hk => .inr (by have := hxw.size; omega))
  have t0d := (Ext.refl W).drew.cell t0
  have b0d := (Ext.refl W).drew.cell b0
  refine wp_region_noPanic ?_
  refine wp_region_held (S := fun w' => w'.cell? ⟨t, 0, none⟩ = some (.int .i64 h) ∧ w'.cell? ⟨w.heap.size, 0, none⟩ = some (.slice Pr row.length cr)) (by kernel_rfl) ?_
  refine wpAnyH_take (i := 0) (v := .pointer (some ⟨w.heap.size, 0, none⟩)) (fuel := 8) rfl (by kernel_rfl) (by kernel_rfl) (by kernel_rfl) (fun _ _ _ h => h) (.inl ⟨rfl, fun W hS => by obtain ⟨e2, e3⟩ := hS; go_simp⟩) ⟨t0d, b0d⟩ ?_
  refine wpAnyH_take (i := 1) (v := .slice Pr row.length cr) (fuel := 7) rfl (by kernel_rfl) (by kernel_rfl) (by kernel_rfl) (fun _ _ _ h => h) (.inl ⟨rfl, fun W hS => by obtain ⟨e2, e3⟩ := hS; go_simp⟩) ⟨t0d, b0d⟩ ?_
  refine wpAnyH_take (i := 2) (v := .pointer (some ⟨t, 0, none⟩)) (fuel := 6) rfl (by kernel_rfl) (by kernel_rfl) (by kernel_rfl) (fun _ _ _ h => h) (.inl ⟨rfl, fun W hS => by obtain ⟨e2, e3⟩ := hS; go_simp⟩) ⟨t0d, b0d⟩ ?_
  refine wpAnyH_take (i := 3) (v := .pointer (some ⟨t, 0, none⟩)) (fuel := 5) rfl (by kernel_rfl) (by kernel_rfl) (by kernel_rfl) (fun _ _ _ h => h) (.inl ⟨rfl, fun W hS => by obtain ⟨e2, e3⟩ := hS; go_simp⟩) ⟨t0d, b0d⟩ ?_
  refine wpAnyH_take (i := 4) (v := .pointer (some ⟨t, 0, none⟩)) (fuel := 4) rfl (by kernel_rfl) (by kernel_rfl) (by kernel_rfl) (fun _ _ _ h => h) (.inl ⟨rfl, fun W hS => by obtain ⟨e2, e3⟩ := hS; go_simp⟩) ⟨t0d, b0d⟩ ?_
  refine wpAnyH_take (i := 5) (v := .int .i64 h) (fuel := 3) rfl (by kernel_rfl) (by kernel_rfl) (by kernel_rfl) (fun _ _ _ h => h) (.inl ⟨rfl, fun W hS => by obtain ⟨e2, e3⟩ := hS; go_simp⟩) ⟨t0d, b0d⟩ ?_
  refine wpAnyH_two (i := 6) (j := 7) (fuel := 2) rfl rfl (by kernel_rfl) rfl rfl (fun K' hK => ?_) (fun K' hK => ?_)
  · go_simp
    refine (hH _ hxd).mono ?_
    rintro e w3 ⟨rfl, x3⟩
    have y0 := x3.cell t0d
    have y1 := x3.cell b0d
    refine hK _ _ ⟨y0, y1⟩ ?_
    clear hK K'
    refine wpAnyH_one (i := 7) (fuel := 1) rfl (by kernel_rfl) rfl fun K' hK => ?_
    go_simp
    have x4 := (Ext.refl w3).alloc (.cells #[.int .i64 0] 3)
    have hb4 := Boxed.new w3 3 (.int .i64 0)
    refine hK _ _ ⟨x4.cell y0, x4.cell y1⟩ ?_
    clear hK K'
    refine wpAnyH_one (i := 8) (fuel := 0) rfl (by kernel_rfl) rfl fun K' hK => ?_
    have q0 := hb4.cell
    have q1 := hb4.frozen
    go_simp
    have hx4 := ((Ext.refl W).drew.trans x3)
    have hx5 := hx4.alloc (.cells #[.int .i64 k] 3)
    refine hK _ _ ⟨hx5.cell t0, hx5.cell b0⟩ ?_
    clear hK K'
    refine wpAnyH_done (by kernel_rfl) ?_ 0
    exact key0 w3.heap.size _ hx4.size (Boxed.new w3 _ _) hx5
  · go_simp
    have hb4 : Boxed (W.drew.alloc (.cells #[.int .i64 0] 3)) W.heap.size 3 (.int .i64 0) := Boxed.new W.drew 3 (.int .i64 0)
    refine hK _ _ ⟨t0a, b0a⟩ ?_
    clear hK K'
    refine wpAnyH_one (i := 6) (fuel := 1) rfl (by kernel_rfl) rfl fun K' hK => ?_
    go_simp
    refine (hH _ hxa).mono ?_
    rintro e w3 ⟨rfl, x3⟩
    have hb5 : Boxed w3 _ _ _ := x3.heap hb4
    refine hK _ _ ⟨x3.cell t0a, x3.cell b0a⟩ ?_
    clear hK K'
    refine wpAnyH_one (i := 8) (fuel := 0) rfl (by kernel_rfl) rfl fun K' hK => ?_
    have q0 := hb5.cell
    have q1 := hb5.frozen
    go_simp
    have hu := (UpdF.refl (fun i => i = W.heap.size) w3).setCell (p := ⟨W.heap.size, 0, none⟩) (.inl rfl) (.int .i64 k)
    have hx5 := hu.ext (((Ext.refl W).drew.alloc (.cells #[.int .i64 0] 3)).trans x3) (fun i hi => by omega)
    refine hK _ _ ⟨hx5.cell t0, hx5.cell b0⟩ ?_
    clear hK K'
    refine wpAnyH_done (by kernel_rfl) ?_ 0
    exact key0 W.heap.size _ (by omega) (hb5.set _) hx5
end
end Go.Proofs.YtcbinafokhekmaaDoor
