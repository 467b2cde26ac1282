/- LmH; LmI; LmJ (merged by group.py) -/
import Derived.Test.YtaciedooeeklpaaDoorQ13
import Derived.Deep.LoopGhost
import Derived.WalkMore
namespace Go.Proofs.YtaciedooeeklpaaDoor
section
open Go.RowKit Go.Maps
set_option linter.unusedVariables false
set_option linter.unusedSimpArgs false
set_option linter.unusedSectionVars false
set_option maxRecDepth 100000
attribute [local go_sem] Oper.semAt_some

set_option maxHeartbeats 8000000 in
theorem shortest_wf (E : List (Int × Int)) (s : Int) (b : Nat) (w : World) (hE : E.length ≤ 100000000000) (hr : ∀ e ∈ E, -9223372036854775808 ≤ e.2 ∧ e.2 ≤ 9223372036854775807)
    (hnx : ∀ (W : World) (n : Int), Ext w W → Calls Tryd.prog 56 #[.pointer (some ⟨b + 2, 0, none⟩), .int .i64 n] W fun e w' => (∃ v', e = .returned v' ∧ OwnI w' W.heap.size v' (nextU E n)) ∧ Ext W w') :
    Calls Tryd.prog 29 #[.int .i64 s, .func (.func 56) #[.pointer (some ⟨b + 2, 0, none⟩)] #[]] w fun e w' => (∃ P c, e = .returned (.slice P ((circF E s).getD []).length c) ∧ SlI w' P c ((circF E s).getD []) ∧ (P = none → circF E s = none ∧ c = 0)) ∧ Ext w w' := by
  have hmm := @run_makeMap Tryd.prog
  have HNX := Lib.hid hnx
  have HR := Lib.hid hr
  obtain ⟨M, hM⟩ : ∃ M, w.heap.size + 2 = M := ⟨_, rfl⟩
  have hx0 : Ext w (((w.alloc (.cells #[.int .i64 s] 3)).alloc (.cells #[.slice (some ⟨w.heap.size, 0, none⟩) 1 1] 30)).alloc (.map #[] 0)) := (((Ext.refl w).alloc _).alloc _).alloc _
  have hW0 : WaysR (((w.alloc (.cells #[.int .i64 s] 3)).alloc (.cells #[.slice (some ⟨w.heap.size, 0, none⟩) 1 1] 30)).alloc (.map #[] 0)) (some ⟨w.heap.size + 1, 0, none⟩) 1 [[s]] := by
    have h1 : SlI (w.alloc (.cells #[.int .i64 s] 3)) (some ⟨w.heap.size, 0, none⟩) 1 [s] := SlG.one elemI.hk s rfl rfl
    have h2 := WaysR.one h1
    rw [World.size_alloc] at h2
    exact h2.ext ((Ext.refl _).alloc _)
  have hM0 : MetI (((w.alloc (.cells #[.int .i64 s] 3)).alloc (.cells #[.slice (some ⟨w.heap.size, 0, none⟩) 1 1] 30)).alloc (.map #[] 0)) M [] := by
    have := MetG.made (mk := fun x => Lit.int .i64 x) (P := Tryd.prog) (k := 3) (e := 4) ((w.alloc (.cells #[.int .i64 s] 3)).alloc (.cells #[.slice (some ⟨w.heap.size, 0, none⟩) 1 1] 30))
    rw [World.size_alloc, World.size_alloc] at this
    rw [← hM]
    exact this
  have hM2 : w.heap.size + 1 + 1 = M := hM
  clear hnx hr
  go_enter Tryd.func29, Tryd.ntmps29
  go_wp2
  go_step3
  go_wp2
  go_step3
  go_wp2
  have HMw := Lib.hid hM
  clear hM hM2 hmm
  generalize ((w.alloc (.cells #[.int .i64 s] 3)).alloc (.cells #[.slice (some ⟨w.heap.size, 0, none⟩) 1 1] 30)).alloc (.map #[] 0) = W0 at *
  go_loopg [5] (E.length + 1) (fun f v5 W => ∃ (n : Nat) (ws : List (List Int)) (met : List Int) (P : Option Addr) (c : Nat), v5 = .slice P ws.length c ∧ WaysR W P c ws ∧ Hid (LvP E s f n ws met) ∧ MetI W M met ∧ Ext w W)
  case atStart => exact ⟨1, [[s]], [], _, _, rfl, hW0, Lib.hid (LvP.first E s), hM0, hx0⟩
  case round =>
    obtain ⟨n, ws, met, P, c, rfl, hWs, hL, hMet, hx⟩ := hrel
    have hwl := hWs.len
    have hML := hL.out.ml
    by_cases hne : ws = []
    · subst hne
      have HN := Lib.hid (hL.out.none)
      clear hWs hMet hL
      go_wp2_with (fail)
      try simp only [Exit.inBlock, Exit.then, Exit.noGoto_ret]
      go_ret
      exact ⟨⟨none, 0, by rw [HN.out]; rfl, by rw [HN.out]; exact SlG.nil _ _, fun _ => ⟨HN.out, rfl⟩⟩, hx⟩
    · have hpos : 0 < ws.length := List.length_pos_iff.2 hne
      have c0 : (0 : Int) < ws.length := by omega
      have HNE := Lib.hid hne
      obtain ⟨WL, hWL⟩ : ∃ WL : World, WL = wr := ⟨_, rfl⟩
      rw [← hWL] at hWs hMet hx ⊢
      clear hWL wr hne
      have hNC := hMet.noCells
      have HWS := Lib.hid hWs
      have HMT := Lib.hid hMet
      clear hWs hMet
      go_wp2_with (fail)
      go_loopw [21, 7] (fun i v W2 => ∃ (j : Nat) (v7 : Value), v7 = v ∧ j ≤ ws.length ∧ i = .int .i64 j ∧ Hid (NoBack E s ws j) ∧ WaysO W2 WL.heap.size v7 (expP (nextU E) (ws.take j) met) ∧ MetI W2 M (metP (nextU E) (ws.take j) met) ∧ UpdF (fun i => i = M) WL W2) (fun i _ _ => ws.length - (intOf i).toNat)
      case atStart => exact ⟨0, _, rfl, by omega, rfl, Lib.hid (fun w hw => by simp at hw), WaysO.nil _ _, HMT.out, UpdF.refl _ _⟩
      case round =>
        obtain ⟨j, v7, hv7, hj, rfl, hNB, hO, hMe, hU⟩ := hrel
        subst hv7
        have hMLT : M < WL.heap.size := HMT.out.lt
        have hMw : w.heap.size ≤ M := by have := HMw.out; omega
        have hxr : Ext w wr := UpdF.ext hx hU (fun i hi => by omega)
        by_cases hlt : j < ws.length
        · obtain ⟨l, hl⟩ : ∃ l, ws[j]? = some l := ⟨_, List.getElem?_eq_getElem hlt⟩
          have hln : l.length = n := hL.out.len l (List.mem_of_getElem? hl)
          obtain ⟨k1, hk1⟩ : ∃ k1, l.length = k1 + 1 := ⟨l.length - 1, by have := hL.out.pos; omega⟩
          have hlne : l ≠ [] := by intro e; rw [e] at hk1; simp at hk1
          obtain ⟨bb, off, Pw, cw, hP, hcell, hsl⟩ := HWS.out.at hl
          subst hP
          obtain ⟨bw, ow, hPw, hend⟩ := hsl.intAt k1 (by omega)
          subst hPw
          have hendv : l.getD k1 0 = endW l := by have := endW_get hlne; rw [hk1] at this; simpa using this
          rw [hendv] at hend
          rw [hk1] at hcell
          have hnb : ∀ {p : Addr} {u : Value}, WL.cell? p = some u → p.block ≠ M := fun {p u} hc e => by
            obtain ⟨o, ho, hn⟩ := hNC
            unfold World.cell? at hc
            rw [e] at hc
            simp only [ho] at hc
            cases o <;> simp at hc
            exact hn _ _ _ rfl
          have hcell2 : wr.cell? ⟨bb, off + j, none⟩ = some (.slice (some ⟨bw, ow, none⟩) (k1 + 1) cw) := hU.cell hcell (hnb hcell)
          have hend2 : wr.cell? ⟨bw, ow + k1, none⟩ = some (.int .i64 (endW l)) := hU.cell hend (hnb hend)
          have HWAY : ∀ W', UpdF (fun i => i = M) WL W' → Calls Tryd.prog 47 #[.slice (some ⟨bw, ow, none⟩) (k1 + 1) cw] W' fun e w' => ∃ v', e = .returned v' ∧ OwnI w' W'.heap.size v' l ∧ Ext W' w' := fun W' hU' => by
            rw [← hk1]
            exact lclone_any (hsl.upd hU' (hNC.off int_pos hsl)) hlne (by have := hL.out.fn; omega)
          have HSL := Lib.hid hsl
          have hfn := hL.out.fn
          have cj : (j : Int) < ws.length := by omega
          have d1 : IntKind.i64.wrap ((j : Int) + 1) = (j : Int) + 1 := IntWalk.i64_in _ ⟨by omega, by omega⟩
          have d2 : IntKind.i64.wrap ((k1 : Int) + 1 - 1) = (k1 : Int) := by rw [show (k1 : Int) + 1 - 1 = k1 from by omega]; exact IntWalk.i64_in _ ⟨by omega, by omega⟩
          have hN3 := HNX.out wr (endW l) hxr
          have hnsl := nextU_len E (endW l)
          have HNSD := Lib.hid (show (nextU E (endW l)).Nodup from (sortU_sorted _).imp (fun h => by omega))
          have HMEM := Lib.hid (show ∀ x ∈ nextU E (endW l), -9223372036854775808 ≤ x ∧ x ≤ 9223372036854775807 from fun x hx => HR.out _ ((nextU_iff E _ x).1 hx))
          obtain ⟨ns, hns⟩ : ∃ ns, nextU E (endW l) = ns := ⟨_, rfl⟩
          have HNS := Lib.hid hns
          rw [hns] at hN3 hnsl HNSD HMEM
          have HO := Lib.hid hO
          have HME := Lib.hid hMe
          have HU := Lib.hid hU
          have HXR := Lib.hid hxr
          have HHL := Lib.hid hl
          clear hns hO hMe hU hxr hl hsl hcell hend hendv
          go_wp2_with (go_at_call 56; refine hN3.mono ?_)
          rintro e W3 ⟨⟨v3, rfl, ho3⟩, hx3⟩
          have hno := fun g => own_lt (g := g) ho3
          obtain ⟨Pn, cn, rfl, hsn⟩ := ho3.slG elemI (by omega)
          have hoff3 : Off (fun i => i = M ∨ v7.ownBlock = some i) Pn ns := fun hne b off e hb => by
            rcases hb with hb | hb
            · exact (MetI.noCells (HME.out.ext hx3)).off int_pos hsn hne b off e hb
            · have h1 := (HO.out.base_ hb).2
              have h2 := (hno b (by rw [e]; rfl)).1
              omega
          have HSN := Lib.hid (And.intro hsn hoff3)
          have HX3 := Lib.hid hx3
          have hncap := hsn.le
          have hncap2 := hsn.cap
          clear hN3 hno hsn hoff3 ho3 hcell2 hend2 hx3
          go_wp2_with (fail)
          go_loopw [34, 7] (fun i v W4 => ∃ (k : Nat) (v8 : Value), v8 = v ∧ k ≤ ns.length ∧ i = .int .i64 k ∧ Hid (s ∉ ns.take k) ∧ WaysO W4 WL.heap.size v8 (expP (nextU E) (ws.take j) met ++ (newK (metP (nextU E) (ws.take j) met) ns k).map (fun v => l ++ [v])) ∧ MetI W4 M (metP (nextU E) (ws.take j) met ++ newK (metP (nextU E) (ws.take j) met) ns k) ∧ UpdF (fun i => i = M) WL W4 ∧ UpdF (fun i => i = M ∨ v7.ownBlock = some i) W3 W4 ∧ Hid (∀ g, v8.ownBlock = some g → v7.ownBlock = some g ∨ W3.heap.size ≤ g)) (fun i _ _ => ns.length - (intOf i).toNat)
          case atStart => exact ⟨0, _, rfl, by omega, rfl, Lib.hid (by simp), by simpa [newK] using HO.out.ext HX3.out, by simpa [newK] using HME.out.ext HX3.out, HU.out.trans (UpdF.of_ext HX3.out _), UpdF.refl _ _, Lib.hid (fun g hg => .inl hg)⟩
          case round =>
            obtain ⟨k, v8, hv8, hk, rfl, hsk, hO4, hM4, hU4, hU3, hown⟩ := hrel
            subst hv8
            have hMLT3 : M < wr.heap.size := hM4.lt
            by_cases hltk : k < ns.length
            · obtain ⟨x, hx0⟩ : ∃ x, ns[k]? = some x := ⟨_, List.getElem?_eq_getElem hltk⟩
              obtain ⟨bn, on, hPn, hxc⟩ := (HSN.out.1.upd hU3 HSN.out.2).intAt k hltk
              subst hPn
              rw [List.getD_eq_getElem?_getD, hx0, Option.getD_some] at hxc
              obtain ⟨hxa, hxb⟩ := HMEM.out x (List.mem_of_getElem? hx0)
              have ck : (k : Int) < ns.length := by omega
              have dk : IntKind.i64.wrap ((k : Int) + 1) = (k : Int) + 1 := IntWalk.i64_in _ ⟨by omega, by omega⟩
              have hkey := key_i hxa hxb
              by_cases hxs : x = s
              · have HC := Lib.hid (hL.out.found HHL.out hNB.out (by rw [HNS.out, ← hxs]; exact List.mem_of_getElem? hx0))
                have e1 : (x == s) = true := by rw [hxs]; simp
                have HWL := Lib.hid (show SlI wr (some ⟨bw, ow, none⟩) cw l from HSL.out.upd hU4 (hNC.off int_pos HSL.out))
                have HXW := Lib.hid (show Ext w wr from UpdF.ext hx hU4 (fun i hi => by omega))
                clear hxs hO4 hM4 hU4 hU3 hown hsk hkey
                go_wp2_with (fail)
                try simp only [Exit.inBlock, Exit.then, Exit.noGoto_ret]
                go_ret
                exact ⟨⟨some ⟨bw, ow, none⟩, cw, by rw [HC.out, Option.getD_some, hk1]; rfl, by rw [HC.out]; exact HWL.out.ext ((Ext.refl _).alloc _), fun e => by cases e⟩, HXW.out.alloc _⟩
              · have e1 : (x == s) = false := by simpa using hxs
                have HSK := Lib.hid (show s ∉ ns.take (k + 1) from by
                  rw [List.take_add_one, hx0, Option.toList_some, List.mem_append, List.mem_singleton]
                  rintro (h | h)
                  · exact hsk.out h
                  · exact hxs h.symm)
                have hlk := MetG.look hM4 keyedI Tryd.underlying90 Tryd.underlying4 (zeroB wr) hkey
                rw [show decide (x ∈ metP (nextU E) (ws.take j) met ++ newK (metP (nextU E) (ws.take j) met) ns k) = decide (x ∈ metP (nextU E) (ws.take j) met) from by rw [decide_eq_decide]; exact newK_mem HNSD.out hx0] at hlk
                have hns1 := newK_succ (met := metP (nextU E) (ws.take j) met) hx0
                by_cases hm : x ∈ metP (nextU E) (ws.take j) met
                · rw [decide_eq_true hm] at hlk
                  rw [if_neg (fun h => h hm), List.append_nil] at hns1
                  have HN1 := Lib.hid hns1
                  have HO4 := Lib.hid (And.intro hO4 (And.intro hM4 (And.intro hU4 hU3)))
                  clear hm hns1 hO4 hM4 hU4 hU3 hxs hsk
                  go_wp2_with (fail)
                  go_roundw
                  case rel => exact ⟨k + 1, _, rfl, by omega, by go_num, HSK, by rw [HN1.out]; exact HO4.out.1, by rw [HN1.out]; exact HO4.out.2.1, HO4.out.2.2.1, HO4.out.2.2.2, hown⟩
                  case measure => simp [intOf, dk]; omega
                · rw [decide_eq_false hm] at hlk
                  rw [if_pos hm] at hns1
                  have hmore := more_len (E := E) ws met j l k
                  rw [HNS.out] at hmore
                  have HN1 := Lib.hid hns1
                  have HO4 := Lib.hid (And.intro hO4 (And.intro hM4 (And.intro hU4 hU3)))
                  obtain ⟨hmo1, hmo2⟩ := hmore
                  have HLB := Lib.hid (show (metP (nextU E) (ws.take j) met ++ newK (metP (nextU E) (ws.take j) met) ns k).length < 9223372036854775807 from by omega)
                  clear hm hns1 hO4 hM4 hU4 hU3 hxs hsk hmo2
                  go_wp2_with (at_mapUpdate; refine wpList_store_met rfl _ _ _ 90 rfl HO4.out.2.1 keyedI Tryd.underlying90 Tryd.underlying4 HLB.out int_inj rfl _ x rfl rfl trivial hkey ?_)
                  intro w5 hM5 hg5
                  have hu5 : UpdF (fun i => i = M) wr w5 := (UpdF.of_grown hg5).mono (fun i hi => by injection hi with hi; exact hi.symm)
                  have hU5 := HO4.out.2.2.1.trans hu5
                  have hO5 := HO4.out.1.upd (MetI.noCells HO4.out.2.1) hu5
                  have hU35 := HO4.out.2.2.2.trans (hu5.mono (fun i hi => .inl hi))
                  have HM5 := Lib.hid hM5
                  have HO5 := Lib.hid (And.intro hO5 (And.intro hU5 hU35))
                  have hC5 := HWAY w5 hU5
                  have hsz5 := hu5.size
                  have hsz3 := HO4.out.2.2.2.size
                  have hszL := HO4.out.2.2.1.size
                  clear hM5 hg5 hu5 hU5 hO5 hU35
                  go_wp2_with (go_at_call 47; refine hC5.mono ?_)
                  rintro e w6 ⟨v6, rfl, ho6, hx6⟩
                  have HO6 := Lib.hid ho6
                  have HX6 := Lib.hid hx6
                  have hsz6 := hx6.size
                  clear ho6 hx6 hC5
                  go_wp2_with (at_builtin; refine wpList_app_U _ elemI rfl _ _ rfl (base := w5.heap.size) rfl (HO6.out.ext ((Ext.refl _).alloc _)) (m := [x]) rfl (SlG.one elemI.hk _ ?c1 ?c2) ?c3 ?c4 ?c5 ?c6 ?_)
                  case c1 => rfl
                  case c2 => rfl
                  case c3 => intro e; cases e
                  case c4 => simp; omega
                  case c5 => simp; omega
                  case c6 => simp; omega
                  intro v8' w8 ho8 hg8 hb8 hob8
                  obtain ⟨l', hl'⟩ : ∃ l', l ++ [x] = l' := ⟨_, rfl⟩
                  have hll' : l'.length = k1 + 2 := by rw [← hl', List.length_append, hk1]; rfl
                  rw [hl'] at ho8
                  have HL' := Lib.hid (And.intro hl' hll')
                  have hno8 := fun g => own_lt (g := g) ho8
                  obtain ⟨P8, c8, rfl, hs8⟩ := ho8.slG elemI (by omega)
                  have hx58 : Ext w5 w8 := below_ext (HX6.out.alloc _) hb8 (Nat.le_refl _)
                  have hsz8 := hx58.size
                  obtain ⟨rows, r1, r2, r3, r4⟩ := ((HO5.out.1.ext hx58).ext ((Ext.refl w8).alloc (.cells #[.slice P8 l'.length c8] 30))).ex
                  have hrl : rows.length ≤ E.length := by
                    have := congrArg List.length r2
                    rw [List.length_map] at this
                    omega
                  have HR4 := Lib.hid (And.intro r2 (And.intro r3 r4))
                  have HR1 := Lib.hid r1
                  have HS8 := Lib.hid (And.intro hs8 hno8)
                  have HX8 := Lib.hid hx58
                  clear hl' hll' r1 r2 r3 r4 hs8 hno8 hx58 hg8 hb8 hob8 ho8
                  go_wp2_with (at_builtin; refine wpList_app_U _ elemW rfl _ _ rfl (base := WL.heap.size) rfl HR1.out (m := [(P8, c8, l')]) rfl (SlG.one elemW.hk _ ?d1 ?d2) ?d3 ?d4 ?d5 ?d6 ?_)
                  case d1 => rfl
                  case d2 => rfl
                  case d3 => intro e; cases e
                  case d4 => simp; omega
                  case d5 => simp; omega
                  case d6 => simp; omega
                  intro v9 w9 ho9 hg9 hb9 hob9
                  have hown4 : ∀ g, v8.ownBlock = some g → WL.heap.size ≤ g ∧ g < wr.heap.size := fun g hg => HO4.out.1.base_ hg
                  have hO9 := ways_push HR4.out.1 HR4.out.2.1 HR4.out.2.2 (x := (P8, c8, l')) (HS8.out.1.ext ((Ext.refl _).alloc _)) (fun g hg hne b off e hb => by
                    have h1 := hown4 g hg
                    simp only at e
                    have h2 := HS8.out.2 b (by rw [e]; rfl)
                    omega) ho9 hg9 (by rw [World.size_alloc]; exact hob9)
                  have hx59 := HX8.out.alloc (.cells #[.slice P8 l'.length c8] 30)
                  have hM9 : MetI w9 M _ := MetG.kept (HM5.out.ext hx59) hg9 (fun e => by
                    have := hown4 M e.symm
                    omega)
                  have hU9 : UpdF (fun i => i = M) WL w9 := (HO5.out.2.1.trans (UpdF.of_ext hx59 _)).trans_new (UpdF.of_grown hg9) (fun i hi => .inr (hown4 i hi).1)
                  have hU39 : UpdF (fun i => i = M ∨ v7.ownBlock = some i) W3 w9 := (HO5.out.2.2.trans (UpdF.of_ext hx59 _)).trans_new (UpdF.of_grown hg9) (fun i hi => by
                    rcases hown.out i hi with h | h
                    · exact .inl (.inr h)
                    · exact .inr h)
                  have hown9 := Lib.hid (show ∀ g, v9.ownBlock = some g → v7.ownBlock = some g ∨ W3.heap.size ≤ g from fun g hg => by
                    rcases hob9 with h | h
                    · exact hown.out g (by rw [← h]; exact hg)
                    · rw [h] at hg
                      injection hg with hg
                      right
                      try rw [World.size_alloc] at hg
                      omega)
                  have HO9 := Lib.hid (And.intro hO9 (And.intro hM9 (And.intro hU9 hU39)))
                  clear hO9 hM9 hU9 hU39 ho9 hg9 hb9 hob9 hx59
                  go_wp2_with (fail)
                  go_roundw
                  case rel => exact ⟨k + 1, _, rfl, by omega, by go_num, HSK, by rw [HN1.out, List.map_append, ← List.append_assoc, List.map_cons, List.map_nil, HL'.out.1]; exact HO9.out.1, by rw [HN1.out]; first | exact HO9.out.2.1 | (rw [← List.append_assoc]; exact HO9.out.2.1), HO9.out.2.2.1, HO9.out.2.2.2, hown9⟩
                  case measure => simp [intOf, dk]; omega
            · obtain rfl : k = ns.length := by omega
              have hexp := exp_take (E := E) (met := met) HHL.out
              rw [HNS.out] at hexp
              have HEX := Lib.hid hexp
              have HNB := Lib.hid (hNB.out.succ HHL.out (by rw [HNS.out]; have := hsk.out; rwa [List.take_length] at this))
              have HO4 := Lib.hid (And.intro hO4 (And.intro hM4 hU4))
              have ck : ¬ (ns.length : Int) < ns.length := by omega
              clear hexp hO4 hM4 hU4 hU3 hown hsk
              go_wp2_with (fail)
              go_roundw
              case rel => exact ⟨j + 1, _, rfl, by omega, by go_num, HNB, by rw [HEX.out.1]; exact HO4.out.1, by rw [HEX.out.2]; exact HO4.out.2.1, HO4.out.2.2⟩
              case measure => simp [intOf, d1]; omega
        · obtain rfl : j = ws.length := by omega
          rw [List.take_length] at hO hMe
          obtain ⟨f', hf', hL'⟩ := hL.out.step HNE.out hNB.out
          have hwl' := hL'.wl
          obtain ⟨P', c', rfl, hR'⟩ := hO.read (by omega)
          have HR' := Lib.hid (And.intro hR' (And.intro hL' hMe))
          have HXR := Lib.hid hxr
          have cj : ¬ (ws.length : Int) < ws.length := by omega
          clear hR' hL' hO hMe hxr hU
          go_wp2_with (fail)
          go_roundg f'
          case measure => omega
          case rel => exact ⟨n + 1, _, _, P', c', rfl, HR'.out.1, Lib.hid HR'.out.2.1, HR'.out.2.2, HXR.out⟩
end
section
open Go.RowKit Go.Maps
set_option linter.unusedVariables false
set_option linter.unusedSimpArgs false
set_option linter.unusedSectionVars false
set_option maxRecDepth 100000
attribute [local go_sem] Oper.semAt_some

theorem zeroI (w : World) : (zeroValue 3).run Tryd.prog w = .ok (.int .i64 0) w := by kernel_rfl
theorem heldM_in {H : HeldL} (hn : ((heldA H).map (·.1)).Nodup) {u m : Int} {n : ByteArray} : heldM H u n = some m ↔ ((u, n), m) ∈ heldA H := by
  unfold heldM
  constructor
  · intro h
    obtain ⟨e, h1, h2⟩ := Option.map_eq_some_iff.1 h
    have h3 := List.find?_some h1
    have h4 := List.mem_of_find?_eq_some h1
    unfold isKey at h3
    simp only [Bool.and_eq_true, decide_eq_true_eq] at h3
    exact List.mem_map.2 ⟨e, h4, by rw [h3.1, h3.2, h2]⟩
  · intro h
    obtain ⟨e, he, h2⟩ := List.mem_map.1 h
    injection h2 with h2 h3
    injection h2 with h4 h5
    have hk : isKey u n e.1 = true := by unfold isKey; rw [h4, h5]; simp
    cases hf : H.find? (fun e => isKey u n e.1) with
    | none =>
      rw [List.find?_eq_none] at hf
      exact absurd hk (hf e he)
    | some e' =>
      have h6 := List.find?_some hf
      have h7 := List.mem_of_find?_eq_some hf
      unfold isKey at h6
      simp only [Bool.and_eq_true, decide_eq_true_eq] at h6
      have : e' = e := held_one hn h7 he (by rw [h6.1, h6.2, h4, h5])
      rw [Option.map_some, this, h3]
theorem heldM_none' {H : HeldL} {u : Int} {n : ByteArray} : heldM H u n = none ↔ (u, n) ∉ (heldA H).map (·.1) := by
  unfold heldM
  rw [Option.map_eq_none_iff, List.find?_eq_none]
  constructor
  · intro h hm
    obtain ⟨x, hx, e⟩ := List.mem_map.1 hm
    obtain ⟨y, hy, rfl⟩ := List.mem_map.1 hx
    simp only at e
    injection e with e1 e2
    exact h y hy (by unfold isKey; rw [e1, e2]; simp)
  · intro h e he hk
    unfold isKey at hk
    simp only [Bool.and_eq_true, decide_eq_true_eq] at hk
    exact h (List.mem_map.2 ⟨_, List.mem_map.2 ⟨e, he, rfl⟩, by rw [hk.1, hk.2]⟩)
/-- the comma-ok look-up of a held place -/
theorem held_look {w : World} {b : Nat} {H : HeldL} (h : MapA dvI 3 w b (heldA H)) {u : Int} {n : ByteArray} (hk : OkP (u, n)) :
    (Instr.lookup 64 (.map (some b)) (.agg #[.int .i64 u, .string n]) true).run Tryd.prog w = .ok (.tuple #[.int .i64 ((heldM H u n).getD 0), .bool (heldM H u n).isSome]) w := by
  obtain ⟨D, hown, hd, h3, h4, h5, h6⟩ := h
  have hkey := mkP_key hk
  have hl := hown.look_ok plKeyed Tryd.underlying64 (zeroI w) (plainElem_int (H := Unit) Tryd.underlying3 (by decide : (Lit.int .i64 0).wf = true)) hkey
  obtain ⟨v, ps, hrun, hv⟩ := hl
  simp only [Plc.v] at hrun
  have hhas := MapA.has_iff h3 h4 hk
  cases hm : heldM H u n with
  | none =>
    have hno : has D (mkP (u, n)) = false := by
      cases hb : has D (mkP (u, n)) with
      | false => rfl
      | true => exact absurd (hhas.1 hb) (heldM_none'.1 hm)
    rw [atKey_of_not_has hno] at hv
    obtain ⟨c, rfl, hc, _⟩ := plainElem_int_inv Tryd.underlying3 hv
    injection hc with hc1 hc2
    injection hc1 with hc1
    injection hc1 with _ hc1
    rw [hno] at hrun
    rw [hrun, ← hc1]
    rfl
  | some m =>
    have hin := (heldM_in hd).1 hm
    have hyes : has D (mkP (u, n)) = true := hhas.2 (List.mem_map.2 ⟨_, hin, rfl⟩)
    rw [h5 _ hin] at hv
    obtain ⟨c, rfl, hc, _⟩ := plainElem_int_inv Tryd.underlying3 hv
    injection hc with hc1 hc2
    unfold dvI at hc1
    injection hc1 with hc1
    injection hc1 with _ hc1
    rw [hyes] at hrun
    rw [hrun, ← hc1]
    rfl
theorem edgeF_len (H : HeldL) : ∀ (R F : LineL), (edgeF H F R).length ≤ R.length * (H.length + F.length + R.length)
  | [], F => by simp [edgeF]
  | r :: R, F => by
    have ih := edgeF_len H R (F ++ [r])
    have h1 : (forL H F r.1).length ≤ H.length + F.length := by
      unfold forL
      rw [List.length_map]
      have := List.length_filter_le (fun e : Gr × Bool => against r.1 e.1) (H ++ F)
      rw [List.length_append] at this
      exact this
    unfold edgeF
    rw [List.length_append, List.length_map]
    simp only [List.length_append, List.length_cons, List.length_nil] at ih ⊢
    have h2 : (R.length + 1) * (H.length + F.length + (R.length + 1)) = R.length * (H.length + (F.length + (0 + 1)) + R.length) + (H.length + F.length + (R.length + 1)) := by
      rw [Nat.add_mul, Nat.one_mul]
      congr 2
      omega
    omega
theorem edge_ok {S : LkSt} (hk : LkOk S) : (edgeF S.H [] S.L).length ≤ 100000000000 ∧ ∀ e ∈ edgeF S.H [] S.L, -9223372036854775808 ≤ e.2 ∧ e.2 ≤ 9223372036854775807 := by
  refine ⟨?_, fun e he => ?_⟩
  · refine Nat.le_trans (edgeF_len S.H S.L []) ?_
    have h1 := hk.hn
    have h2 := hk.ln
    refine Nat.le_trans (Nat.mul_le_mul h2 (show S.H.length + ([] : LineL).length + S.L.length ≤ 200000 from by simp; omega)) (by omega)
  · obtain ⟨u, v⟩ := e
    obtain ⟨A, r, B, h1, h2, h3⟩ := edgeF_edge.1 he
    obtain ⟨x, hx, _, hv⟩ := forL_has.1 h3
    have hx2 : hasG S.H x ∨ hasG S.L x := by
      rcases hx with hx | ⟨bb, hx⟩
      · exact .inl hx
      · exact .inr ⟨bb, by rw [h1]; simp [hx]⟩
    have := hk.u x hx2
    simp only
    omega
theorem shortest_lk (u : Int) (w : World) {F : Nat → Prop} {b : Nat} {v : Value} {S : LkSt} (h : LockS w F b v S) (hk : LkOk S) (hu : UnitsN S.L) :
    Calls Tryd.prog 29 #[.int .i64 u, .func (.func 56) #[.pointer (some ⟨b + 2, 0, none⟩)] #[]] w fun e w' => (∃ P c, e = .returned (.slice P ((circF (edgeF S.H [] S.L) u).getD []).length c) ∧ SlI w' P c ((circF (edgeF S.H [] S.L) u).getD []) ∧ (P = none → circF (edgeF S.H [] S.L) u = none ∧ c = 0)) ∧ Ext w w' :=
  shortest_wf (edgeF S.H [] S.L) u b w (edge_ok hk).1 (edge_ok hk).2 (fun W n hx => by
    have := lwaitsFor_any n W (h.ext hx) hk
    rw [wf_next S hu] at this
    exact this)
end
section
open Go.RowKit Go.Maps
set_option linter.unusedVariables false
set_option linter.unusedSimpArgs false
set_option linter.unusedSectionVars false
set_option maxRecDepth 100000
attribute [local go_sem] Oper.semAt_some

theorem settle_end (n : Nat) (W' : World) (tmps : Array Value) (x y z : Value) (h4 : tmps.getD 4 undef = .pointer (some ⟨n, 0, none⟩)) (q0 : W'.cell? ⟨n, 0, none⟩ = some x) (q1 : W'.cell? ⟨n, 1, none⟩ = some y) (q2 : W'.cell? ⟨n, 2, none⟩ = some z) :
    (results Tryd.f42 tmps).run Tryd.prog W' = .ok (.agg #[x, y, z]) W' := by
  have h4' : tmps[4]?.getD undef = .pointer (some ⟨n, 0, none⟩) := by simpa using h4
  simp only [results, Tryd.results42]
  simp [Sem.run_bind, Result.andThen, h4', go_sem, q0, q1, q2]
theorem box3_set {W : World} {B : Nat} {t : TypeId} {x y z : Value} (h : BoxN W B t #[x, y, z]) (x' y' z' : Value) : BoxN (((W.setCell ⟨B, 0, none⟩ x').setCell ⟨B, 1, none⟩ y').setCell ⟨B, 2, none⟩ z') B t #[x', y', z'] := by
  have := ((h.set 0 x').set 1 y').set 2 z'
  simpa using this
theorem ext_set3 {w W : World} (h : Ext w W) {B : Nat} (hb : w.heap.size ≤ B) (x' y' z' : Value) : Ext w (((W.setCell ⟨B, 0, none⟩ x').setCell ⟨B, 1, none⟩ y').setCell ⟨B, 2, none⟩ z') :=
  ((h.setCell hb x').setCell hb y').setCell hb z'
set_option maxHeartbeats 2000000 in
theorem lsettle_none (u : Int) (w : World) {F : Nat → Prop} {b : Nat} {v : Value} {S : LkSt} (h : LockS w F b v S) (hk : LkOk S) (hu : UnitsN S.L) (hc : circF (edgeF S.H [] S.L) u = none) :
    Calls Tryd.prog 42 #[.pointer (some ⟨b + 2, 0, none⟩), .int .i64 u] w fun e w' => e = .returned (.agg #[.bool false, .slice none 0 0, .slice none 0 0]) ∧ Ext w w' := by
  have hmf : ∀ (fn : Fn) (first cap : Array Value) (w : World), (Instr.makeFunc fn first cap).run Tryd.prog w = .ok (.func fn first cap) w := fun _ _ _ _ => rfl
  obtain ⟨W3, hW3⟩ : ∃ W3, ((w.alloc (.cells #[.int .i64 u] 3)).alloc (.cells #[.bool false, .slice none 0 0, .slice none 0 0] 39)).alloc (.cells #[.bool false, .slice none 0 0, .slice none 0 0] 39) = W3 := ⟨_, rfl⟩
  have hx3 : Ext w W3 := by rw [← hW3]; exact (((Ext.refl _).alloc _).alloc _).alloc _
  have b0 : Boxed W3 w.heap.size 3 (.int .i64 u) := by rw [← hW3]; exact ((Boxed.new _ _ _).alloc _).alloc _
  have b1 : BoxN W3 (w.heap.size + 1) 39 #[.bool false, .slice none 0 0, .slice none 0 0] := by
    have := BoxN.new (w.alloc (.cells #[.int .i64 u] 3)) 39 #[.bool false, .slice none 0 0, .slice none 0 0]
    rw [World.size_alloc] at this
    rw [← hW3]
    exact this.ext ((Ext.refl _).alloc _)
  have b2 : BoxN W3 (w.heap.size + 2) 39 #[.bool false, .slice none 0 0, .slice none 0 0] := by
    have := BoxN.new ((w.alloc (.cells #[.int .i64 u] 3)).alloc (.cells #[.bool false, .slice none 0 0, .slice none 0 0] 39)) 39 #[.bool false, .slice none 0 0, .slice none 0 0]
    rw [World.size_alloc, World.size_alloc] at this
    rw [← hW3]
    exact this
  have HH := Lib.hid (And.intro h (And.intro hk (And.intro hu hc)))
  have HB := Lib.hid (And.intro b0 (And.intro b1 b2))
  have HX3 := Lib.hid hx3
  have hzw : W3.heap.size = w.heap.size + 3 := by rw [← hW3]; simp only [World.size_alloc]
  clear h hk hu hc hx3 b0 b1 b2
  go_enter Tryd.func42, Tryd.ntmps42
  go_wp2_with (fail)
  clear hW3
  go_loopw [6] (fun _ W => W = W3) (fun _ _ => 0)
  case atStart => rfl
  case round =>
    obtain rfl := hrel
    have h3 := HH.out.1.ext HX3.out
    have hW := lwaits_any u wr h3 (by have := HH.out.2.1.ln; omega)
    have kb := HB.out.1.cell
    have hz : (0 ≤ idxR (fun y : Rq => decide (y.1.1 = u)) S.L) ∨ idxR (fun y : Rq => decide (y.1.1 = u)) S.L < 0 := by omega
    have HFIN := Lib.hid (fun W4 (hx : Ext wr W4) => And.intro (box3_set (HB.out.2.1.ext hx) (.bool false) (.slice none 0 0) (.slice none 0 0)) (ext_set3 (HX3.out.trans hx) (B := w.heap.size + 1) (by omega) (.bool false) (.slice none 0 0) (.slice none 0 0)))
    have HC := Lib.hid (fun W4 (hx : Ext wr W4) => And.intro (show W4.cell? ⟨w.heap.size, 0, none⟩ = some (.int .i64 u) from hx.cell kb) (And.intro (show W4.cell? ⟨w.heap.size + 2, 0, none⟩ = some (.bool false) from (HB.out.2.2.ext hx).cell (i := 0) rfl) (And.intro (show W4.cell? ⟨w.heap.size + 2, 1, none⟩ = some (.slice none 0 0) from (HB.out.2.2.ext hx).cell (i := 1) rfl) (And.intro (show W4.cell? ⟨w.heap.size + 2, 2, none⟩ = some (.slice none 0 0) from (HB.out.2.2.ext hx).cell (i := 2) rfl)
      (And.intro (show W4.cell? ⟨w.heap.size + 1, 0, none⟩ = some (.bool false) from (HB.out.2.1.ext hx).cell (i := 0) rfl) (And.intro (show W4.cell? ⟨w.heap.size + 1, 1, none⟩ = some (.slice none 0 0) from (HB.out.2.1.ext hx).cell (i := 1) rfl) (And.intro (show W4.cell? ⟨w.heap.size + 1, 2, none⟩ = some (.slice none 0 0) from (HB.out.2.1.ext hx).cell (i := 2) rfl) (And.intro ((HB.out.2.1.ext hx).frozen 0) (And.intro ((HB.out.2.1.ext hx).frozen 1) ((HB.out.2.1.ext hx).frozen 2))))))))))
    have hSh := fun W4 (hx : Ext wr W4) => by
      have := shortest_lk u W4 (h3.ext hx) HH.out.2.1 HH.out.2.2.1
      rw [HH.out.2.2.2] at this
      exact this
    generalize idxR (fun y : Rq => decide (y.1.1 = u)) S.L = z at *
    clear h3
    rcases hz with hz | hz
    · have hd : decide (0 ≤ z) = true := decide_eq_true hz
      go_wp2_with (first
        | (go_at_call 52; refine hW.mono ?_; rintro e w4 ⟨rfl, hx4⟩; obtain ⟨kb4, c0, c1, c2, d0, d1, d2, f0, f1, f2⟩ := HC.out w4 hx4)
        | (go_at_call 29; refine (hSh w4 hx4).mono ?_; rintro e w5 ⟨⟨P, c, rfl, _, hP⟩, hx5⟩; obtain ⟨kb5, c0, c1, c2, d0, d1, d2, f0, f1, f2⟩ := HC.out w5 (hx4.trans hx5); simp only [Option.getD_none, List.length_nil]))
      obtain ⟨g1, g2⟩ := HFIN.out w5 (hx4.trans hx5)
      refine bodyPost_ret (settle_end (w.heap.size + 1) _ _ _ _ _ rfl (g1.cell (i := 0) rfl) (g1.cell (i := 1) rfl) (g1.cell (i := 2) rfl)) rfl ?_
      exact ⟨rfl, g2⟩
    · have hd : decide (0 ≤ z) = false := decide_eq_false (by omega)
      have hn : ¬ 0 ≤ z := by omega
      go_wp2_with ((go_at_call 52; refine hW.mono ?_; rintro e w4 ⟨rfl, hx4⟩; obtain ⟨kb4, c0, c1, c2, d0, d1, d2, f0, f1, f2⟩ := HC.out w4 hx4))
      obtain ⟨g1, g2⟩ := HFIN.out w4 hx4
      refine bodyPost_ret (settle_end (w.heap.size + 1) _ _ _ _ _ rfl (g1.cell (i := 0) rfl) (g1.cell (i := 1) rfl) (g1.cell (i := 2) rfl)) rfl ?_
      exact ⟨rfl, g2⟩
/-- a grant in memory -/
def csG (x : Gr) : List Value := [.int .i64 x.1, .string x.2.1, .int .i64 x.2.2]
theorem elemGr : ElemG csG 37 83 3 32 where
  ht := Tryd.underlying37
  info := by
    have h : (Tryd.prog.info? 83).map (fun i => (i.zero, i.size, i.bytes)) = some (some (.agg #[.int .i64 0, .string ⟨#[]⟩, .int .i64 0]), 3, 32) := by kernel_rfl
    cases hq : Tryd.prog.info? 83 with
    | none => simp [hq] at h
    | some i => simp [hq] at h; exact ⟨i, _, rfl, h.1, h.2.1, h.2.2, rfl⟩
  k0 := by omega
  hk := fun _ => rfl
  one := fun x u hu => by
    simp [csG] at hu
    rcases hu with rfl | rfl | rfl <;> rfl
set_option maxHeartbeats 2000000 in
theorem lline_any (w : World) {F : Nat → Prop} {b : Nat} {v : Value} {S : LkSt} (h : LockS w F b v S) (hl : S.L.length ≤ 100000) :
    Calls Tryd.prog 17 #[.pointer (some ⟨b + 2, 0, none⟩)] w fun e w' => (∃ v', e = .returned v' ∧ OwnG csG 83 3 w' w.heap.size v' (S.L.map (·.1))) ∧ Ext w w' := by
  obtain ⟨P, cap, rfl, hsl⟩ := OwnG.slG elemR h.line (by omega)
  have kb := h.box.cell (i := 2) rfl
  have HS := Lib.hid hsl
  have hle := hsl.le
  have hcap := hsl.cap
  clear hsl h
  obtain ⟨L, hL⟩ : ∃ L, S.L = L := ⟨_, rfl⟩
  rw [hL] at kb HS hle hl ⊢
  clear hL
  go_enter Tryd.func17, Tryd.ntmps17
  go_wp2_with (fail)
  go_loopw [13, 3] (fun i v W => ∃ (j : Nat) (v3 : Value), v3 = v ∧ j ≤ L.length ∧ i = .int .i64 j ∧ OwnG csG 83 3 W w.heap.size v3 ((L.take j).map (·.1)) ∧ Ext w W) (fun i _ _ => L.length - (intOf i).toNat)
  case atStart => exact ⟨0, _, rfl, by omega, rfl, OwnG.nil _ _ _ _ _, Ext.refl _⟩
  case round =>
    obtain ⟨j, v3, hv3, hj, rfl, ho, hx⟩ := hrel
    subst hv3
    by_cases hlt : j < L.length
    · obtain ⟨e, hs⟩ : ∃ e, L[j]? = some e := ⟨_, List.getElem?_eq_getElem hlt⟩
      obtain ⟨bb, off, hP, g0, g1, g2, g3⟩ := SlR.at4 (HS.out.ext hx) j e hs
      subst hP
      have cj : (j : Int) < L.length := by omega
      have d1 : IntKind.i64.wrap ((j : Int) + 1) = (j : Int) + 1 := IntWalk.i64_in _ ⟨by omega, by omega⟩
      have HJ := Lib.hid (show (L.take (j + 1)).map (·.1) = (L.take j).map (·.1) ++ [e.1] from by rw [List.take_add_one, hs, Option.toList_some, List.map_append]; rfl)
      have hln : ((L.take j).map (·.1)).length = j := by rw [List.length_map, List.length_take]; omega
      have hn0 : (wr.alloc (.cells #[.int .i64 e.1.1, .string e.1.2.1, .int .i64 e.1.2.2, .bool e.2] 75)).cell? ⟨wr.heap.size, 0, none⟩ = some (.int .i64 e.1.1) := (BoxN.new wr 75 #[.int .i64 e.1.1, .string e.1.2.1, .int .i64 e.1.2.2, .bool e.2]).cell (i := 0) rfl
      have hn1 : (wr.alloc (.cells #[.int .i64 e.1.1, .string e.1.2.1, .int .i64 e.1.2.2, .bool e.2] 75)).cell? ⟨wr.heap.size, 1, none⟩ = some (.string e.1.2.1) := (BoxN.new wr 75 #[.int .i64 e.1.1, .string e.1.2.1, .int .i64 e.1.2.2, .bool e.2]).cell (i := 1) rfl
      have hn2 : (wr.alloc (.cells #[.int .i64 e.1.1, .string e.1.2.1, .int .i64 e.1.2.2, .bool e.2] 75)).cell? ⟨wr.heap.size, 2, none⟩ = some (.int .i64 e.1.2.2) := (BoxN.new wr 75 #[.int .i64 e.1.1, .string e.1.2.1, .int .i64 e.1.2.2, .bool e.2]).cell (i := 2) rfl
      have HO := Lib.hid (And.intro ho hx)
      have hsz := hx.size
      clear hs ho hx
      go_wp2_with (at_builtin; refine wpList_app_U _ elemGr rfl _ _ rfl (base := w.heap.size) rfl ((HO.out.1.ext ((Ext.refl wr).alloc (.cells #[.int .i64 e.1.1, .string e.1.2.1, .int .i64 e.1.2.2, .bool e.2] 75))).ext ((Ext.refl _).alloc _)) (m := [e.1]) rfl (SlG.one elemGr.hk _ ?c1 ?c2) ?c3 ?c4 ?c5 ?c6 ?_)
      all_goals first
        | rfl
        | (intro e; cases e; done)
        | omega
        | (simp only [hln, List.length_cons, List.length_nil]; omega)
        | (simp; omega)
        | skip
      intro v9 w9 ho9 hg9 hb9 hob9
      have hx9 : Ext w w9 := below_ext ((HO.out.2.alloc _).alloc _) hb9 (Nat.le_refl _)
      have HO9 := Lib.hid (And.intro ho9 hx9)
      clear ho9 hx9 hg9 hb9 hob9
      go_wp2_with (fail)
      go_roundw
      case rel => exact ⟨j + 1, _, rfl, by omega, by go_num, by rw [HJ.out, List.map_take]; exact HO9.out.1, HO9.out.2⟩
      case measure => simp [intOf, d1]; omega
    · obtain rfl : j = L.length := by omega
      rw [List.take_length] at ho
      go_wp2_with (fail)
      go_ret
      exact ⟨⟨_, rfl, ho⟩, hx⟩
end
end Go.Proofs.YtaciedooeeklpaaDoor
