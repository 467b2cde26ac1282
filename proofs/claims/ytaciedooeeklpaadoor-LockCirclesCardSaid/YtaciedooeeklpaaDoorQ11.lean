/- LmB; LkW; LkY (merged by group.py) -/
import Derived.Test.YtaciedooeeklpaaDoorQ10
import Derived.Deep.RegionLaw
import Derived.Deep.LoopGhost
import Derived.Maps.RangeWalk
import Derived.Maps.AppendAt
namespace Go.Proofs.YtaciedooeeklpaaDoor
section
open Go.RowKit Go.Maps
set_option linter.unusedVariables false
set_option linter.unusedSimpArgs false
set_option linter.unusedSectionVars false
set_option maxRecDepth 100000
attribute [local go_sem] Oper.semAt_some

section
variable {P : Program} {w : World} {ops : Array Oper} {rest : List Oper} {o : Oper} {a : Act} {K : Act → World → Prop} {Q : Exit → Act → World → Prop} {E : Prop}
theorem wp_delete_at (d s : Operand) (t t' : TypeId) (ho : o.op = .call { callee := .builtin .delete, args := #[d, s], argTypes := #[t, t'] }) (v u : Value) (hd : a.eval d = v) (hs : a.eval s = u) {v' : Value} {w' : World}
    (hr : (Builtin.delete_ #[t, t'] o.type #[v, u]).run P w = .ok v' w') (h : K (a.put o.dst v') w') : o.wp P a w K Q := by
  unfold Oper.wp execOp
  simp only [ho, resolve, invoke, builtin, Sem.run_bind, Sem.run_pure, Result.andThen_ok, List.map_toArray, List.map_cons, List.map_nil, hd, hs, hr]
  exact h
theorem step_delete_at (hgd : o.guard = none) (d s : Operand) (t t' : TypeId) (ho : o.op = .call { callee := .builtin .delete, args := #[d, s], argTypes := #[t, t'] }) (v u : Value) (hd : a.eval d = v) (hs : a.eval s = u) {v' : Value} {w' : World}
    (hr : (Builtin.delete_ #[t, t'] o.type #[v, u]).run P w = .ok v' w') (h : K (a.put o.dst v') w') : if Region.wanted o (yielded ops a.tmps) = true then Oper.wp P o a w K Q else E := by
  rw [if_pos (by simp [Region.wanted, hgd])]
  exact wp_delete_at d s t t' ho v u hd hs hr h
end
/-- all orders of a region end in one state -/
theorem wp_join {P : Program} {c : Code} {K : Act → World → Prop} {Q : Exit → Act → World → Prop} {a : Act} {w : World} (A : Act) (W : World) (h : ∀ K : Act → World → Prop, K A W → c.wp P (Exit.then K Q) a w) (hk : K A W) : c.wp P (Exit.then K Q) a w := h K hk
theorem plain_int (x : Int) (h : (-9223372036854775808 ≤ x ∧ x ≤ 9223372036854775807)) : plainElem (H := Unit) Tryd.prog 3 (.int .i64 x) = some (dvI x, []) :=
  plainElem_int Tryd.underlying3 (by
    obtain ⟨h1, h2⟩ := h
    simp [Lit.wf, IntKind.min, IntKind.max, IntKind.signed, IntKind.bits]
    omega)
theorem plain_bool (x : Bool) : plainElem (H := Unit) Tryd.prog 4 (.bool x) = some (dvB x, []) := plainElem_bool Tryd.underlying4 x
theorem mode_le {m : Int} (h : modeN m = true) : -9223372036854775808 ≤ m ∧ m ≤ 9223372036854775807 := by
  unfold modeN at h
  rw [decide_eq_true_eq] at h
  omega
set_option maxHeartbeats 4000000 in
theorem lgive_any (g : Gr) (w : World) {F : Nat → Prop} {b : Nat} {v : Value} {S : LkSt} (h : LockS w F b v S) (hk : LkOk S) (hg : GrOk g) (hu : OkP (g.1, g.2.1)) :
    Calls Tryd.prog 40 #[.pointer (some ⟨b + 2, 0, none⟩), .agg #[.int .i64 g.1, .string g.2.1], .int .i64 g.2.2] w fun e w' => e = .returned (.tuple #[]) ∧ LockS w' F b v ⟨giveG S.H g, S.L⟩ ∧ UpdF (fun i => i = b ∨ i = b + 1) w w' := by
  have hlt := h.box.lt
  obtain ⟨W1, hW1⟩ : ∃ W1, w.alloc (.cells #[.int .i64 g.1, .string g.2.1] 72) = W1 := ⟨_, rfl⟩
  have hx1 : Ext w W1 := by rw [← hW1]; exact (Ext.refl _).alloc _
  have hB1 : BoxN W1 w.heap.size 72 #[.int .i64 g.1, .string g.2.1] := by rw [← hW1]; exact BoxN.new w 72 _
  have h1 : LockS W1.drew F b v S := (h.ext hx1).ext (Ext.refl _).drew
  obtain ⟨W2, hrun2, hH2, hU2⟩ := h1.held.store Tryd.underlying64 (by have := hk.hn; unfold heldA; simp; omega) hu (plain_int g.2.2 (mode_le hg.1))
  have hN2 := (h1.noted.upd hU2 (by omega)).ext (Ext.refl _).drew
  obtain ⟨W3, hrun3, hN3, hU3⟩ := hN2.drop Tryd.underlying65 hu 0
  have hB2 : W2.cell? ⟨w.heap.size, 0, none⟩ = some (.int .i64 g.1) ∧ W2.cell? ⟨w.heap.size, 1, none⟩ = some (.string g.2.1) := by
    have hB := (hB1.ext (Ext.refl _).drew).upd (UpdF.of_upd hU2) (by omega)
    exact ⟨hB.cell (i := 0) rfl, hB.cell (i := 1) rfl⟩
  obtain ⟨c20, c21⟩ := hB2
  have kb1 := h1.box.cell (i := 0) rfl
  have kb2 := (h1.box.upd (UpdF.of_upd hU2) (by omega)).cell (i := 1) rfl
  have c10 : W1.cell? ⟨w.heap.size, 0, none⟩ = some (.int .i64 g.1) := hB1.cell (i := 0) rfl
  have c11 : W1.cell? ⟨w.heap.size, 1, none⟩ = some (.string g.2.1) := hB1.cell (i := 1) rfl
  have hUF : UpdF (fun i => i = b ∨ i = b + 1) w W3 := ((((UpdF.of_ext hx1 _).drew).trans ((UpdF.of_upd hU2).mono (fun i hi => .inl hi))).drew).trans ((UpdF.of_upd hU3).mono (fun i hi => .inr hi))
  have hnd3 : ∀ i, ¬ (i = b ∨ i = b + 1) → i < w.heap.size → W3.heap[i]? = w.heap[i]? := fun i hi hl => hUF.block i hl hi
  have hheld3 : MapA dvI 3 W3 b (heldA (setG S.H g)) := ((hH2.perm (held_set S.H g)).ext (Ext.refl _).drew).upd hU3 (by omega)
  have hnoted3 : MapA dvB 4 W3 (b + 1) (notedA (setG S.H g)) := hN3.perm (noted_set S.H g)
  have hbox3 : BoxN W3 (b + 2) 68 #[.map (some b), .map (some (b + 1)), v] := h.box.upd hUF (by omega)
  have hline3 : OwnG Rq.cells 75 4 W3 (b + 3) v S.L := h.line.upd hUF (fun k hk => by have := h.line.base_ k hk; omega)
  have hB3 : BoxN W3 w.heap.size 72 #[.int .i64 g.1, .string g.2.1] := (((hB1.ext (Ext.refl _).drew).upd (UpdF.of_upd hU2) (by omega)).ext (Ext.refl _).drew).upd (UpdF.of_upd hU3) (by omega)
  by_cases h3 : g.2.2 = 3
  · have e3 : (g.2.2 != 3) = false := by rw [h3]; rfl
    have e4 : (g.2.2 == 3) = true := by rw [h3]; rfl
    have H3 := Lib.hid h3
    have hlen : (setG S.H g).length ≤ S.H.length + 1 := by
      have := (held_set S.H g).length_eq
      unfold heldA at this
      rw [List.length_map] at this
      rw [← this]
      refine Nat.le_trans (putA_len _ _ _) ?_
      simp
    have hHk : ∀ e ∈ setG S.H g, e.1.2.1.size ≤ 1000000 := fun e he => by
      rcases setG_gr.1 ⟨e.2, he⟩ with h1 | ⟨⟨bb, h1⟩, _⟩
      · rw [h1]; exact hg.2
      · exact (hk.h _ h1).2
    obtain ⟨H', hH'⟩ : ∃ H', setG S.H g = H' := ⟨_, rfl⟩
    have hfin : ∀ w' l, MapA dvB 4 w' (b + 1) l → l.Perm (notedA (noteG H' g)) → UpdF (fun i => i = b + 1) W3 w' → LockS w' F b v ⟨giveG S.H g, S.L⟩ ∧ UpdF (fun i => i = b ∨ i = b + 1) w w' := fun w' l hM hp hU => by
      have e : giveG S.H g = noteG H' g := by unfold giveG; rw [hH']
      rw [e]
      refine ⟨⟨hbox3.upd hU (by omega), ?_, hM.perm hp, hline3.upd hU (fun k hk => by have := h.line.base_ k hk; omega), h.f0, h.f1, h.f2, h.fl, h.low⟩, hUF.trans (hU.mono (fun i hi => .inr hi))⟩
      show MapA dvI 3 w' b (heldA (noteG H' g))
      rw [held_note, ← hH']
      exact hheld3.updF hU (by omega)
    have HFIN := Lib.hid hfin
    rw [hH'] at hheld3 hnoted3 hlen hHk
    have HHK := Lib.hid hHk
    obtain ⟨D, hown, hnd, hok, hhas, hat, hsz⟩ := hheld3
    have hszH : size D = H'.length := by rw [hsz]; unfold heldA; rw [List.length_map]
    have kb3 := hbox3.cell (i := 0) rfl
    have hnotl : (notedA H').length ≤ 200000 := by
      unfold notedA
      rw [List.length_map]
      have := List.length_filter_le (fun e : Gr × Bool => e.2) H'
      have := hk.hn
      omega
    have hbsz : b + 2 < W3.heap.size := hbox3.lt
    have hwz : w.heap.size < W3.heap.size := hB3.lt
    have HBX := Lib.hid (And.intro hbox3 hB3)
    have hHl : H'.length ≤ 200000 := by have := hk.hn; omega
    unfold Plc.v at hrun2 hrun3
    clear hfin hbox3 hline3 hB3 hnd3 hUF hN3 hU3 hN2 hU2 hH2 h1 hx1 h hB1 hk hHk h3
    go_enter Tryd.func40, Tryd.ntmps40
    go_wp2
    apply wp_join
    case h =>
      intro K2 hQ
      go_region
      all_goals exact hQ
    go_wp2
    apply wp_join
    case h =>
      intro K2 hQ
      go_region_law (refine step_delete_at rfl _ _ 65 72 rfl (.map (some (b + 1))) (.agg #[.int .i64 g.1, .string g.2.1]) rfl rfl hrun3 ?_)
      all_goals exact hQ
    clear hrun2 hrun3 c20 c21 kb1 kb2 c10 c11
    go_wp2_with (at_range; refine wpList_range_own _ rfl _ _ rfl _ _ plKeyed Tryd.underlying64 _ b _ D rfl hown ?_; intro W4 hr4 hg4 hz4)
    have hx4 : Ext W3 W4 := ⟨hg4.os, hg4.tape, hg4.output, hg4.size, fun i hi => hg4.block i hi (by simp)⟩
    rw [hszH] at hr4
    have hN4 := hnoted3.ext hx4
    clear kb3
    go_frame
    go_loopg [6] H'.length (fun k _ wr => ∃ (left : Lit → Bool) (l : List (Plc × Bool)), wr.ranges Tryd.prog 72 (plainElem (H := Unit) Tryd.prog 3) b W3.heap.size (heldA H').length D left k ∧ MapA dvB 4 wr (b + 1) l ∧ UpdF (fun i => i = b + 1) W3 wr ∧ Hid (NoteW H' g left l) ∧ l.length + k ≤ 400000)
    case atStart =>
      refine ⟨_, _, hr4, hN4, UpdF.of_ext hx4 _, Lib.hid (NoteW.first H3.out (List.Perm.refl _) (fun e he => ?_)), by omega⟩
      exact (hhas (mkP (e.1.1, e.1.2.1))).2 ⟨((e.1.1, e.1.2.1), e.1.2.2), List.mem_map.2 ⟨e, he, rfl⟩, rfl⟩
    case round =>
      obtain ⟨left, l, hr, hM, hU, hN, hlk2⟩ := hrel
      rcases hr.next plKeyed 0 with ⟨hc0, hl0, hrun⟩ | ⟨key, v0, kl, y, w', cnt', hkey, hlk, hv, hatk, hrun, hrg, hclt, hgr, hszw, hen⟩
      · have HE := Lib.hid (HFIN.out wr l hM (hN.out.done H3.out (by obtain ⟨D2, _, h2, _⟩ := hM; exact h2) hnd hl0) hU)
        clear hr hM hU hN hl0
        go_wp2
        go_end0
        exact ⟨rfl, HE.out⟩
      · obtain ⟨p, rfl⟩ := mkP_inv hkey
        obtain ⟨q, hq, hqk⟩ := (hhas kl).1 (Maps.has_true_of_atKey hatk)
        have hpq : p = q.1 := by
          have := plKeyed.inj hkey (by rw [← hqk]; exact mkP_key (hok q hq))
          obtain ⟨p1, p2⟩ := p
          obtain ⟨⟨q1, q2⟩, q3⟩ := q
          simpa [Plc.v] using this
        obtain ⟨e, he, rfl⟩ := List.mem_map.1 hq
        have hv0 : v0 = .int .i64 e.1.2.2 := by
          obtain ⟨m, rfl, hm, _⟩ := plainElem_int_inv Tryd.underlying3 hv
          have h1 := hat _ hq (.lit (.int .i64 0))
          rw [hqk, hatk, hm] at h1
          unfold dvI at h1
          injection h1 with h1
          injection h1 with h2 h3
          rw [h3]
        subst hv0 hpq
        have HOK := Lib.hid (hok _ hq)
        have hsz := HHK.out e he
        have hLL := fun e' (he' : e' ∈ H') (hl : (left (mkP (e'.1.1, e'.1.2.1)) && !(mkP (e'.1.1, e'.1.2.1)).sameKey kl) = false) => show left (mkP (e'.1.1, e'.1.2.1)) = false ∨ e' = e from by
          rw [Bool.and_eq_false_iff] at hl
          rcases hl with hl | hl
          · exact .inl hl
          · have hkk := WideAt.sameKey_eq (by simpa using hl)
            rw [← hqk] at hkk
            exact .inr (held_one hnd he' he (mkP_inj (hok _ (List.mem_map.2 ⟨e', he', rfl⟩)) (hok _ hq) hkk))
        have hlt := hr.lt
        have hU1 : UpdF (fun i => i = b + 1) W3 w' := hU.trans_new (UpdF.of_grown hgr) (fun i hi => .inr (by injection hi with hi; omega))
        have hM1 : MapA dvB 4 w' (b + 1) l := hM.updF (UpdF.of_grown hgr) (by intro hi; injection hi with hi; omega)
        have hgs := hrg.alloc (.cells #[.int .i64 e.1.1, .string e.1.2.1] 72)
        have hU2 := hU1.alloc (.cells #[.int .i64 e.1.1, .string e.1.2.1] 72)
        have hM2 := hM1.ext ((Ext.refl _).alloc (.cells #[.int .i64 e.1.1, .string e.1.2.1] 72))
        have hB2 := HBX.out.2.upd hU2 (by omega)
        have kp0 : (w'.alloc (.cells #[.int .i64 e.1.1, .string e.1.2.1] 72)).cell? ⟨w.heap.size, 0, none⟩ = some (.int .i64 g.1) := hB2.cell (i := 0) rfl
        have kp1 : (w'.alloc (.cells #[.int .i64 e.1.1, .string e.1.2.1] 72)).cell? ⟨w.heap.size, 1, none⟩ = some (.string g.2.1) := hB2.cell (i := 1) rfl
        have kn0 : (w'.alloc (.cells #[.int .i64 e.1.1, .string e.1.2.1] 72)).cell? ⟨w'.heap.size, 0, none⟩ = some (.int .i64 e.1.1) := (BoxN.new w' 72 #[.int .i64 e.1.1, .string e.1.2.1]).cell (i := 0) rfl
        have kn1 : (w'.alloc (.cells #[.int .i64 e.1.1, .string e.1.2.1] 72)).cell? ⟨w'.heap.size, 1, none⟩ = some (.string e.1.2.1) := (BoxN.new w' 72 #[.int .i64 e.1.1, .string e.1.2.1]).cell (i := 1) rfl
        have hcn : condN g e = (decide (e.1.1 ≠ g.1) && decide (e.1.2.2 = 1) && touchN e.1.2.1 g.2.1) := rfl
        simp only [Plc.v] at hrun hen
        have HQ := Lib.hid hq
        have HI := Lib.hid (And.intro hqk (And.intro hat hhas))
        have HNN := Lib.hid (And.intro hN (And.intro hLL he))
        have HV := Lib.hid hv
        have hgsz := hg.2
        clear hqk hq hv hhas hat hatk hkey hr hgr hM hU hU1 hM1 hN hLL hB2
        by_cases hm : e.1.2.2 = 1
        · have m1 : (e.1.2.2 == 1) = true := by rw [hm]; rfl
          by_cases hu2 : e.1.1 = g.1
          · have u1 : (e.1.1 != g.1) = false := by rw [hu2]; simp
            have u2 : (e.1.1 == g.1) = true := by rw [hu2]; simp
            have HS := Lib.hid (HNN.out.1.out.skip (left' := fun k => left k && !k.sameKey kl) (e := e) (by rw [hcn, decide_eq_false (fun h => h hu2)]; simp) HNN.out.2.1)
            clear hm hu2 hcn
            go_wp2_with (first | (go_at_call 18; refine hT.mono ?_; rintro r6 w6 ⟨rfl, hx6⟩) | (refine ⟨trivial, ?_⟩) | (with_reducible refine And.intro (fun _ hf => (by cases hf)) ?_))
            go_roundg cnt'
            case measure => omega
            case rel => exact ⟨_, l, hgs, hM2, hU2, HS, by omega⟩
          · have u1 : (e.1.1 != g.1) = true := by simpa using hu2
            have u2 : (e.1.1 == g.1) = false := by simpa using hu2
            have hT := ltouch_any g.2.1 e.1.2.1 (w'.alloc (.cells #[.int .i64 e.1.1, .string e.1.2.1] 72)) hgsz hsz
            rw [hszw] at kn0 kn1
            cases hto : touchN g.2.1 e.1.2.1 with
            | false =>
              rw [hto] at hT
              have HS := Lib.hid (HNN.out.1.out.skip (left' := fun k => left k && !k.sameKey kl) (e := e) (by rw [hcn, touchN_symm, hto]; simp) HNN.out.2.1)
              clear hm hu2 hcn hto
              go_wp2_with (first | (go_at_call 18; refine hT.mono ?_; rintro r6 w6 ⟨rfl, hx6⟩) | (refine ⟨trivial, ?_⟩) | (with_reducible refine And.intro (fun _ hf => (by cases hf)) ?_))
              have hb6 : ∀ k, k < w'.heap.size → w6.heap[k]? = (w'.alloc (.cells #[.int .i64 e.1.1, .string e.1.2.1] 72)).heap[k]? := fun k hk => hx6.block (by rw [World.size_alloc]; omega)
              go_roundg cnt'
              case measure => omega
              case rel => exact ⟨_, l, ranges_same hgs (hx6.block hgs.owns.lt) (hx6.block hgs.lt), hM2.ext hx6, hU2.trans (UpdF.of_ext hx6 _), HS, by omega⟩
            | true =>
              rw [hto] at hT
              have HS := Lib.hid (HNN.out.1.out.put H3.out (left' := fun k => left k && !k.sameKey kl) (e := e) HNN.out.2.2 (by rw [hcn, touchN_symm, hto, decide_eq_true hm, decide_eq_true hu2]; rfl) HNN.out.2.1)
              clear hm hu2 hcn hto
              go_wp2_with (first | (go_at_call 18; refine hT.mono ?_; rintro r6 w6 ⟨rfl, hx6⟩) | (refine ⟨trivial, ?_⟩) | (with_reducible refine And.intro (fun _ hf => (by cases hf)) ?_))
              have hM6 := (hM2.ext hx6).ext (Ext.refl _).drew
              obtain ⟨W7, hrun7, hM7, hU7⟩ := hM6.store Tryd.underlying65 (by omega) HOK.out (plain_bool true)
              have kb6 := ((HBX.out.1.upd (hU2.trans (UpdF.of_ext hx6 _)) (by omega)).ext (Ext.refl _).drew).cell (i := 1) rfl
              have kn60 := hx6.cell kn0
              have kn61 := hx6.cell kn1
              have hr7 := ranges_same hgs ((UpdF.of_upd hU7).block b (by have := hx6.size; rw [World.size_alloc] at this; show b < w6.heap.size; omega) (by omega) |>.trans (hx6.block hgs.owns.lt)) ((UpdF.of_upd hU7).block W3.heap.size (by have := hx6.size; rw [World.size_alloc] at this; show _ < w6.heap.size; omega) (by omega) |>.trans (hx6.block hgs.lt))
              have hU7' : UpdF (fun i => i = b + 1) W3 W7 := (hU2.trans (UpdF.of_ext hx6 _)).drew.trans (UpdF.of_upd hU7)
              have hpl := putA_len l (e.1.1, e.1.2.1) true
              simp only [Plc.v] at hrun7
              go_region
              all_goals (
                go_wp2
                go_roundg cnt'
                case measure => omega
                case rel => exact ⟨_, _, hr7, hM7, hU7', HS, by omega⟩)
        · have m1 : (e.1.2.2 == 1) = false := by simpa using hm
          have HS := Lib.hid (HNN.out.1.out.skip (left' := fun k => left k && !k.sameKey kl) (e := e) (by rw [hcn, decide_eq_false hm]; simp) HNN.out.2.1)
          clear hm hcn
          go_wp2_with (first | (go_at_call 18; refine hT.mono ?_; rintro r6 w6 ⟨rfl, hx6⟩) | (refine ⟨trivial, ?_⟩) | (with_reducible refine And.intro (fun _ hf => (by cases hf)) ?_))
          go_roundg cnt'
          case measure => omega
          case rel => exact ⟨_, l, hgs, hM2, hU2, HS, by omega⟩
  · have HF := Lib.hid (show LockS W3 F b v ⟨giveG S.H g, S.L⟩ from by
      have e : giveG S.H g = setG S.H g := by unfold giveG noteG; rw [if_neg h3]
      rw [e]
      exact ⟨hbox3, hheld3, hnoted3, hline3, h.f0, h.f1, h.f2, h.fl, h.low⟩)
    have HU := Lib.hid hUF
    have e3 : (g.2.2 != 3) = true := by simpa using h3
    have e4 : (g.2.2 == 3) = false := by simpa using h3
    unfold Plc.v at hrun2 hrun3
    clear hheld3 hnoted3 hbox3 hline3 hB3 hnd3 hUF hN3 hU3 hN2 hU2 hH2 h1 hx1 h hB1
    go_enter Tryd.func40, Tryd.ntmps40
    go_wp2
    apply wp_join
    case h =>
      intro K2 hQ
      go_region
      all_goals exact hQ
    go_wp2
    apply wp_join
    case h =>
      intro K2 hQ
      go_region_law (refine step_delete_at rfl _ _ 65 72 rfl (.map (some (b + 1))) (.agg #[.int .i64 g.1, .string g.2.1]) rfl rfl hrun3 ?_)
      all_goals exact hQ
    go_wp2
    refine bodyPost_ret (results_none rfl _ _ _) rfl ?_
    exact ⟨rfl, HF.out, HU.out⟩
end
section
open Go.RowKit
set_option linter.unusedVariables false
set_option linter.unusedSimpArgs false
set_option linter.unusedSectionVars false
set_option maxRecDepth 100000

/-- a list's block is none of F (where it has elements) -/
def Off {α : Type} (F : Nat → Prop) (P : Option Addr) (l : List α) : Prop := l ≠ [] → ∀ b off, P = some ⟨b, off, none⟩ → ¬ F b
theorem Off.mono {α : Type} {F G : Nat → Prop} {P : Option Addr} {l : List α} (h : Off F P l) (hg : ∀ i, G i → F i) : Off G P l := fun hl b off e hb => h hl b off e (hg b hb)
theorem SlG.upd {α : Type} {cs : α → List Value} {F : Nat → Prop} {a b : World} {P : Option Addr} {c : Nat} {l : List α} (h : SlG cs a P c l) (hu : UpdF F a b) (hf : Off F P l) : SlG cs b P c l := by
  refine ⟨fun i x hi => ?_, h.le, h.cap⟩
  obtain ⟨g, off, e, h1⟩ := h.at_ i x hi
  have hne : l ≠ [] := fun e2 => by rw [e2] at hi; simp at hi
  exact ⟨g, off, e, fun j v hj => hu.cell (h1 j v hj) (hf hne g off e)⟩
theorem SlG.lt {α : Type} {cs : α → List Value} {w : World} {P : Option Addr} {c : Nat} {l : List α} (hk : ∀ x, 0 < (cs x).length) (h : SlG cs w P c l) : Off (fun i => w.heap.size ≤ i) P l := by
  intro hne b off e hb
  cases l with
  | nil => exact hne rfl
  | cons x l =>
    obtain ⟨g, o, e2, h1⟩ := h.at_ 0 x rfl
    rw [e] at e2
    injection e2 with e2
    injection e2 with e3 e4
    subst e3
    have := h1 0 _ (List.getElem?_eq_getElem (hk x))
    have := block_lt this
    simp only at this
    omega
theorem Off.or {α : Type} {F G : Nat → Prop} {P : Option Addr} {l : List α} (h : Off F P l) (k : Off G P l) : Off (fun i => F i ∨ G i) P l := fun hl b off e hb => by
  rcases hb with h1 | h1
  · exact h hl b off e h1
  · exact k hl b off e h1
theorem own_lt {α : Type} {cs : α → List Value} {e : TypeId} {k : Nat} {w : World} {base : Nat} {v : Value} {l : List α} (h : OwnG cs e k w base v l) {g : Nat} (hg : v.ownBlock = some g) : base ≤ g ∧ g < w.heap.size := by
  rcases h.2 with ⟨h0, _⟩ | ⟨g', cap, cur, hv, hb, hc, rest⟩
  · rw [h0] at hg; cases hg
  · rw [hv] at hg
    injection hg with hg
    subst hg
    exact ⟨hb, (Array.getElem?_eq_some_iff.1 hc).1⟩
section
variable {α : Type} {cs : α → List Value} {t e : TypeId} {k bytes : Nat} {w : World} {base : Nat}
theorem OwnG.append2 (E : ElemG cs t e k bytes) (ty : TypeId) {v : Value} {l m : List α} (h : OwnG cs e k w base v l) {P : Option Addr} {c : Nat} (hm : SlG cs w P c m) (hP : P = none → c = 0) (hle : (l.length + m.length) * bytes ≤ 140737488355328) (hlb : l.length + m.length ≤ 9223372036854775807) (hbase : base ≤ w.heap.size) :
    ∃ v' w', (Builtin.append_ #[t, t] ty #[v, .slice P m.length c]).run Tryd.prog w = .ok v' w' ∧ OwnG cs e k w' base v' (l ++ m) ∧ w.grownBy w' v.ownBlock ∧ Below base w w' ∧ (v'.ownBlock = v.ownBlock ∨ v'.ownBlock = some w.heap.size) := by
  have hbel : ∀ w', w.grownBy w' v.ownBlock → Below base w w' := fun w' hg => Below.grown (Below.refl _ _) hg hbase (fun g hg => h.base_ g hg)
  obtain ⟨i, z, hi, hz, hs, hby, hzs⟩ := E.info
  cases P with
  | none =>
    obtain rfl := hP rfl
    obtain rfl : m = [] := List.length_eq_zero_iff.1 (by have := hm.le; omega)
    refine ⟨v, w, run_append_owned_none w base t ty e i k E.ht hi v _ _ h, by rw [List.append_nil]; exact h, ⟨rfl, rfl, rfl, Nat.le_refl _, fun _ _ _ => rfl⟩, Below.refl _ _, .inl rfl⟩
  | some ad =>
    have hn : ∀ j u, (m.flatMap cs)[j]? = some u → w.cell? (ad.add j) = some u := by
      cases m with
      | nil => intro j u hj; simp at hj
      | cons y m =>
        obtain ⟨b, off, e, _⟩ := hm.at_ 0 y rfl
        injection e with e
        subst e
        exact hm.flat E.hk
    obtain ⟨v', w', hr, ho, hg, _, hob⟩ := run_append_own_at w base t ty e i z k bytes E.ht hi hz hs hby hzs E.k0 v l.length _ h ad m.length c (m.flatMap cs) (flat_len E.hk m) hn (fun u hu => by
      obtain ⟨x, _, hx⟩ := List.mem_flatMap.1 hu
      exact E.one x u hx) (by unfold maxLen; omega) hle hbase
    refine ⟨v', w', hr, ?_, hg, hbel _ hg, hob⟩
    unfold OwnG
    rw [List.length_append, List.flatMap_append]
    exact ho
variable {ops : Array Oper} {rest : List Oper} {o : Oper} {a : Act} {Q : Exit → Act → World → Prop}
/-- append(s, x...) for the walk, with what has changed -/
theorem wpList_app_U (w : World) (E : ElemG cs t e k bytes) (hgd : o.guard = none) (s x : Operand) (ho : o.op = .call { callee := .builtin .append, args := #[s, x], argTypes := #[t, t] }) {v : Value} {l : List α} (hs : a.eval s = v) (h : OwnG cs e k w base v l)
    {P : Option Addr} {c : Nat} {m : List α} (hx : a.eval x = .slice P m.length c) (hm : SlG cs w P c m) (hP : P = none → c = 0) (hle : (l.length + m.length) * bytes ≤ 140737488355328) (hlb : l.length + m.length ≤ 9223372036854775807) (hbase : base ≤ w.heap.size)
    (hn : ∀ v' w', OwnG cs e k w' base v' (l ++ m) → w.grownBy w' v.ownBlock → Below base w w' → (v'.ownBlock = v.ownBlock ∨ v'.ownBlock = some w.heap.size) → wpList Tryd.prog ops Q rest (a.put o.dst v') w') : wpList Tryd.prog ops Q (o :: rest) a w := by
  obtain ⟨v', w', hr, ho', hg, hb, hob⟩ := h.append2 E o.type hm hP hle hlb hbase
  exact Lib.wpList_append_run _ hgd s x _ _ ho _ _ hs hx _ _ hr (hn _ _ ho' hg hb hob)
end
theorem wpAppU_step {α : Type} {cs : α → List Value} {t e : TypeId} {k bytes : Nat} {w : World} {base : Nat} {ops : Array Oper} {o : Oper} {a : Act} {K : Act → World → Prop} {Q : Exit → Act → World → Prop}
    (E : ElemG cs t e k bytes) (s x : Operand) (ho : o.op = .call { callee := .builtin .append, args := #[s, x], argTypes := #[t, t] }) {v : Value} {l m : List α} (hs : a.eval s = v) (h : OwnG cs e k w base v l)
    {P : Option Addr} {c : Nat} (hx : a.eval x = .slice P m.length c) (hm : SlG cs w P c m) (hP : P = none → c = 0) (hle : (l.length + m.length) * bytes ≤ 140737488355328) (hlb : l.length + m.length ≤ 9223372036854775807) (hbase : base ≤ w.heap.size)
    (hn : ∀ v' w', OwnG cs e k w' base v' (l ++ m) → w.grownBy w' v.ownBlock → Below base w w' → (v'.ownBlock = v.ownBlock ∨ v'.ownBlock = some w.heap.size) → K (a.put o.dst v') w') : o.wp Tryd.prog a w K Q := by
  obtain ⟨v', w', hr, ho', hg, hb, hob⟩ := h.append2 E o.type hm hP hle hlb hbase
  exact wp_append_at s x t ho v _ hs hx hr (hn _ _ ho' hg hb hob)
end
section
open Go.RowKit
set_option linter.unusedVariables false
set_option linter.unusedSimpArgs false
set_option linter.unusedSectionVars false
set_option maxRecDepth 100000
attribute [local go_sem] Oper.semAt_some

def flatQ (l : List Rq) : List Value := l.flatMap Rq.cells
theorem flatQ_length (l : List Rq) : (flatQ l).length = l.length * 4 := by
  induction l with
  | nil => rfl
  | cons c l ih =>
    simp only [flatQ, List.flatMap_cons, List.length_append, Rq.cells, List.length_cons, List.length_nil] at ih ⊢
    omega
theorem flatQ_take (l : List Rq) (i : Nat) : (flatQ l).take (i * 4) = flatQ (l.take i) := by
  induction l generalizing i with
  | nil => simp [flatQ]
  | cons c l ih =>
    cases i with
    | zero => simp [flatQ]
    | succ i =>
      have e : (i + 1) * 4 = i * 4 + 1 + 1 + 1 + 1 := by omega
      have h := ih i
      simp only [flatQ, Rq.cells, List.flatMap_cons, List.cons_append, List.nil_append, List.take_succ_cons, e] at h ⊢
      rw [h]
theorem flatQ_drop (l : List Rq) (i : Nat) : (flatQ l).drop (i * 4) = flatQ (l.drop i) := by
  induction l generalizing i with
  | nil => simp [flatQ]
  | cons c l ih =>
    cases i with
    | zero => simp
    | succ i =>
      have e : (i + 1) * 4 = i * 4 + 1 + 1 + 1 + 1 := by omega
      have h := ih i
      simp only [flatQ, Rq.cells, List.flatMap_cons, List.cons_append, List.nil_append, List.drop_succ_cons, e] at h ⊢
      rw [h]
theorem flatQ_cells (l : List Rq) : ∀ v ∈ flatQ l, v.oneCell' = true := fun v hv => by
  obtain ⟨c, _, hc⟩ := List.mem_flatMap.1 hv
  exact elemR.one c v hc
theorem flatQ_append (a b : List Rq) : flatQ (a ++ b) = flatQ a ++ flatQ b := by simp [flatQ]
theorem sizeQ : ∃ i z, Tryd.prog.info? 75 = some i ∧ i.zero = some z ∧ i.size = 4 ∧ i.bytes = 40 ∧ z.cells.size = 4 := elemR.info
theorem ownsRow_head {w : World} {base : Nat} {g n cap : Nat} {xs : List Value} (h : w.ownsRow base 75 4 (.slice (some ⟨g, 0, none⟩) n cap) n xs) (i : Nat) (hi : i ≤ n) :
    w.ownsRow base 75 4 (.slice (some ⟨g, 0, none⟩) i cap) i (xs.take (i * 4)) := by
  refine ⟨by rw [List.length_take, h.1]; omega, ?_⟩
  rcases h.2 with ⟨h', _⟩ | ⟨g', cap', cur, h', hb, hg, hnc, hcm, hcs, htake⟩
  · simp at h'
  · simp only [Value.slice.injEq, Option.some.injEq, Addr.mk.injEq, and_true, true_and] at h'
    obtain ⟨rfl, rfl⟩ := h'
    refine .inr ⟨g, cap, cur, rfl, hb, hg, by omega, hcm, hcs, ?_⟩
    rw [← htake, List.take_take]
    congr 1
    omega
/-- a cell of an owned row's block, filled or spare -/
theorem spare_some {w : World} {base : Nat} {e : TypeId} {size g n cap : Nat} {xs : List Value} (h : w.ownsRow base e size (.slice (some ⟨g, 0, none⟩) n cap) n xs) (j : Nat) (hj : j < cap * size) : (w.cell? ⟨g, j, none⟩).isSome = true := by
  rcases h.2 with ⟨h', _⟩ | ⟨g', cap', cur, h', hb, hg, hnc, hcm, hcs, htake⟩
  · simp at h'
  · simp only [Value.slice.injEq, Option.some.injEq, Addr.mk.injEq, and_true, true_and] at h'
    obtain ⟨rfl, rfl⟩ := h'
    rw [cell_of_row w g j cur e (0, 0) hg]
    simp [hcs, hj]
def zero4 (w : World) (g o : Nat) : World := (((w.setCell ⟨g, o, none⟩ (.int .i64 0)).setCell ⟨g, o + 1, none⟩ (.string ⟨#[]⟩)).setCell ⟨g, o + 2, none⟩ (.int .i64 0)).setCell ⟨g, o + 3, none⟩ (.bool false)
theorem cell_set_ne (W : World) (g i j : Nat) (v : Value) (h : i ≠ j) : (W.setCell ⟨g, i, none⟩ v).cell? ⟨g, j, none⟩ = W.cell? ⟨g, j, none⟩ :=
  World.cell?_setCell_other _ _ _ _ (fun e => h (by have := congrArg Addr.off e; simpa using this))
theorem clear_four (g o c : Nat) (w : World) (x0 x1 x2 x3 : Value) (h0 : w.cell? ⟨g, o, none⟩ = some x0) (h1 : w.cell? ⟨g, o + 1, none⟩ = some x1) (h2 : w.cell? ⟨g, o + 2, none⟩ = some x2) (h3 : w.cell? ⟨g, o + 3, none⟩ = some x3)
    (f0 : w.frozen? ⟨g, o, none⟩ = false) (f1 : w.frozen? ⟨g, o + 1, none⟩ = false) (f2 : w.frozen? ⟨g, o + 2, none⟩ = false) (f3 : w.frozen? ⟨g, o + 3, none⟩ = false) :
    (Builtin.clear_ #[66] 0 #[.slice (some ⟨g, o, none⟩) 1 c]).run Tryd.prog w = .ok (.tuple #[]) (zero4 w g o) := by
  unfold Builtin.clear_ zero4
  go_simp
  have e : (Builtin.zeroCells #[Value.int IntKind.i64 0, Value.string { data := #[] }, Value.int IntKind.i64 0, Value.bool false] 1).toList = [.int .i64 0, .string ⟨#[]⟩, .int .i64 0, .bool false] := by simp [Builtin.zeroCells, Array.range]
  rw [e]
  have g1 : (w.setCell ⟨g, o, none⟩ (.int .i64 0)).cell? ⟨g, o + 1, none⟩ = some x1 := by rw [cell_set_ne _ _ _ _ _ (by omega)]; exact h1
  have k1 : (w.setCell ⟨g, o, none⟩ (.int .i64 0)).frozen? ⟨g, o + 1, none⟩ = false := by rw [World.frozen?_setCell]; exact f1
  have g2 : ((w.setCell ⟨g, o, none⟩ (.int .i64 0)).setCell ⟨g, o + 1, none⟩ (.string ⟨#[]⟩)).cell? ⟨g, o + 2, none⟩ = some x2 := by rw [cell_set_ne _ _ _ _ _ (by omega), cell_set_ne _ _ _ _ _ (by omega)]; exact h2
  have k2 : ((w.setCell ⟨g, o, none⟩ (.int .i64 0)).setCell ⟨g, o + 1, none⟩ (.string ⟨#[]⟩)).frozen? ⟨g, o + 2, none⟩ = false := by rw [World.frozen?_setCell, World.frozen?_setCell]; exact f2
  have g3 : (((w.setCell ⟨g, o, none⟩ (.int .i64 0)).setCell ⟨g, o + 1, none⟩ (.string ⟨#[]⟩)).setCell ⟨g, o + 2, none⟩ (.int .i64 0)).cell? ⟨g, o + 3, none⟩ = some x3 := by rw [cell_set_ne _ _ _ _ _ (by omega), cell_set_ne _ _ _ _ _ (by omega), cell_set_ne _ _ _ _ _ (by omega)]; exact h3
  have k3 : (((w.setCell ⟨g, o, none⟩ (.int .i64 0)).setCell ⟨g, o + 1, none⟩ (.string ⟨#[]⟩)).setCell ⟨g, o + 2, none⟩ (.int .i64 0)).frozen? ⟨g, o + 3, none⟩ = false := by rw [World.frozen?_setCell, World.frozen?_setCell, World.frozen?_setCell]; exact f3
  go_simp
theorem Upd.zero4 {w w1 : World} {g : Nat} (h : Upd w g w1) (o : Nat) : Upd w g (zero4 w1 g o) := (((h.trans (Upd.setCell _ _ _ _)).trans (Upd.setCell _ _ _ _)).trans (Upd.setCell _ _ _ _)).trans (Upd.setCell _ _ _ _)

set_option maxHeartbeats 1000000 in
theorem ldelete_any (L : List Rq) (g cap base : Nat) (i : Nat) (w : World) (hL : L.length ≤ 100000) (hi : i < L.length) (hown : w.ownsRow base 75 4 (.slice (some ⟨g, 0, none⟩) L.length cap) L.length (flatQ L)) :
    Calls Tryd.prog 58 #[.slice (some ⟨g, 0, none⟩) L.length cap, .int .i64 i, .int .i64 (i + 1)] w fun e w' =>
      e = .returned (.slice (some ⟨g, 0, none⟩) (L.length - 1) cap) ∧ w'.ownsRow base 75 4 (.slice (some ⟨g, 0, none⟩) (L.length - 1) cap) (L.length - 1) (flatQ (L.eraseIdx i)) ∧ Upd w g w' := by
  have hnc : L.length ≤ cap := by
    rcases hown.2 with ⟨h', _⟩ | ⟨g', cap', cur, h', hb, hg, hnc, _⟩
    · simp at h'
    · simp only [Value.slice.injEq, Option.some.injEq, Addr.mk.injEq, and_true, true_and] at h'
      omega
  have hcap : cap ≤ 9223372036854775807 := by
    rcases hown.2 with ⟨h', _⟩ | ⟨g', cap', cur, h', hb, hg, _, hm, _⟩
    · simp at h'
    · simp only [Value.slice.injEq, Option.some.injEq, Addr.mk.injEq, and_true, true_and] at h'
      simp only [maxLen] at hm
      omega
  have q1 : (i : Int) + 1 ≤ L.length := by omega
  have q2 : (i : Int) ≤ cap := by omega
  have q3 : (L.length : Int) ≤ cap := by omega
  have q4 : ((i : Int) + 1).toNat = i + 1 := by omega
  have q5 : (0 : Int) ≤ (i : Int) + 1 := by omega
  have q6 : (i : Int) ≤ (i : Int) + 1 := by omega
  have q7 : ¬ (i : Int) = (i : Int) + 1 := by omega
  have hh := ownsRow_head (w := w.drew) (n := L.length) (own_ext hown ((Ext.refl w).drew)) i (by omega)
  have hdrop : ((flatQ L).drop ((i + 1) * 4)).length = (L.length - (i + 1)) * 4 := by rw [flatQ_drop, flatQ_length, List.length_drop]
  have hrun : ∃ w1, (Builtin.append_ #[66, 66] 66 #[.slice (some ⟨g, 0, none⟩) i cap, .slice (if cap = i + 1 then some ⟨g, 0, none⟩ else some ⟨g, (i + 1) * 4, none⟩) (L.length - (i + 1)) (cap - (i + 1))]).run Tryd.prog w.drew = .ok (.slice (some ⟨g, 0, none⟩) (i + (L.length - (i + 1))) cap) w1 ∧
      w1.ownsRow base 75 4 (.slice (some ⟨g, 0, none⟩) (i + (L.length - (i + 1))) cap) (i + (L.length - (i + 1))) ((flatQ L).take (i * 4) ++ (flatQ L).drop ((i + 1) * 4)) ∧ w.drew.grownBy w1 (some g) := by
    obtain ⟨i0, z0, hi0, hz0, hz1, hz2, hz3⟩ := sizeQ
    have hone : ∀ u ∈ (flatQ L).drop ((i + 1) * 4), u.oneCell' = true := fun u hu => flatQ_cells _ u (List.mem_of_mem_drop hu)
    by_cases hc : cap = i + 1
    · rw [if_pos hc]
      have e0 : L.length - (i + 1) = 0 := by omega
      have e1 : (flatQ L).drop ((i + 1) * 4) = [] := by rw [← List.length_eq_zero_iff, hdrop, e0]
      refine run_append_fits (P := Tryd.prog) _ base _ _ 75 i0 4 elemR.ht hi0 hz1 g i cap _ hh ⟨g, 0, none⟩ _ _ _ hdrop (fun j u hj => ?_) hone (by omega)
      rw [e1] at hj
      simp at hj
    · rw [if_neg hc]
      refine run_append_fits (P := Tryd.prog) _ base _ _ 75 i0 4 elemR.ht hi0 hz1 g i cap _ hh ⟨g, (i + 1) * 4, none⟩ _ _ _ hdrop (fun j u hj => ?_) hone (by omega)
      rw [List.getElem?_drop] at hj
      have hjl : (i + 1) * 4 + j < (flatQ L).length := (List.getElem?_eq_some_iff.1 hj).1
      rw [flatQ_length] at hjl
      have := hown.cellAt ((i + 1) * 4 + j) hjl
      rw [Go.WideShapes.add_plain]
      exact this.trans hj
  obtain ⟨w1, hrun, hown1, hgr⟩ := hrun
  have hk : ∃ k, k + 1 = L.length := ⟨L.length - 1, by omega⟩
  obtain ⟨k, hk⟩ := hk
  have ek : i + (L.length - (i + 1)) = k := by omega
  rw [ek] at hrun hown1
  have hown2 : w1.ownsRow base 75 4 (.slice (some ⟨g, 0, none⟩) k cap) k (flatQ (L.eraseIdx i)) := by
    rw [flatQ_take, flatQ_drop] at hown1
    rw [List.eraseIdx_eq_take_drop_succ]
    have : flatQ (L.take i) ++ flatQ (L.drop (i + 1)) = flatQ (L.take i ++ L.drop (i + 1)) := by simp [flatQ]
    rw [← this]
    exact hown1
  clear hown1
  have hu1 : Upd w g w1 := (Upd.refl w g).drew.trans hgr
  have hsp : ∀ q, q < 4 → (∃ x, w1.cell? ⟨g, k * 4 + q, none⟩ = some x) ∧ w1.frozen? ⟨g, k * 4 + q, none⟩ = false := fun q hq => ⟨Option.isSome_iff_exists.1 (spare_some hown2 _ (by omega)), hown2.frozenAt _⟩
  obtain ⟨⟨x0, s0⟩, f0⟩ := hsp 0 (by omega)
  obtain ⟨⟨x1, s1⟩, f1⟩ := hsp 1 (by omega)
  obtain ⟨⟨x2, s2⟩, f2⟩ := hsp 2 (by omega)
  obtain ⟨⟨x3, s3⟩, f3⟩ := hsp 3 (by omega)
  have hclr := clear_four g (k * 4) (cap - k) w1 x0 x1 x2 x3 s0 s1 s2 s3 f0 f1 f2 f3
  have hout : (zero4 w1 g (k * 4)).ownsRow base 75 4 (.slice (some ⟨g, 0, none⟩) k cap) k (flatQ (L.eraseIdx i)) := by
    have hl := hown2.1
    have e1 := (hown2.stored (k * 4) (.int .i64 0)).1
    rw [List.set_eq_of_length_le (by omega)] at e1
    have e2 := (e1.stored (k * 4 + 1) (.string ⟨#[]⟩)).1
    rw [List.set_eq_of_length_le (by omega)] at e2
    have e3 := (e2.stored (k * 4 + 2) (.int .i64 0)).1
    rw [List.set_eq_of_length_le (by omega)] at e3
    have e4 := (e3.stored (k * 4 + 3) (.bool false)).1
    rw [List.set_eq_of_length_le (by omega)] at e4
    exact e4
  have hz4 := hu1.zero4 (k * 4)
  generalize zero4 w1 g (k * 4) = w2 at *
  have q8 : (k : Int) ≤ L.length := by omega
  have q9 : ((L.length : Int)).toNat = L.length := rfl
  have q10 : L.length - k = 1 := by omega
  have q11 : ¬ cap = k := by omega
  have q12 : L.length - 1 = k := by omega
  rw [q12]
  generalize hn : L.length = n at *
  go_enter Tryd.func58, Tryd.ntmps58
  go_wp2
  go_region_law (refine wp_append_at (.tmp 22) (.tmp 25) 66 rfl (.slice (some ⟨g, 0, none⟩) i cap) (.slice (if cap = i + 1 then some ⟨g, 0, none⟩ else some ⟨g, (i + 1) * 4, none⟩) (n - (i + 1)) (cap - (i + 1))) rfl rfl hrun ?_)
  go_wp2
  all_goals (
    go_ret
    refine ⟨rfl, ?_, ?_⟩
    · first
        | exact hout
        | (rw [show i + 1 = cap from by omega]; exact hout)
    · exact hz4)
end
end Go.Proofs.YtaciedooeeklpaaDoor
