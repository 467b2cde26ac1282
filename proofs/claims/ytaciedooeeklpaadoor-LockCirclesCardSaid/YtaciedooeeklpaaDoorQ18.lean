/- LmHc; RangeL (merged by group.py) -/
import Derived.Test.YtaciedooeeklpaaDoorQ17
import Derived.Deep.LoopGhost
import Derived.WalkMore
import Derived.Test.YtaciedooeeklpaaDoorQ05
namespace Go.Proofs.YtaciedooeeklpaaDoor
section
open Go.RowKit Go.Maps
set_option linter.unusedVariables false
set_option linter.unusedSimpArgs false
set_option linter.unusedSectionVars false
set_option maxRecDepth 100000
attribute [local go_sem] Oper.semAt_some

set_option maxHeartbeats 8000000 in
theorem shortest_cc (E : List (Int × Int)) (s : Int) (b : Nat) (w : World) (hE : E.length ≤ 100000000000) (hr : ∀ e ∈ E, -9223372036854775808 ≤ e.2 ∧ e.2 ≤ 9223372036854775807)
    (hs : -9223372036854775808 ≤ s ∧ s ≤ 9223372036854775807) (hnx : ∀ (W : World) (n : Int), Ext w W → (-9223372036854775808 ≤ n ∧ n ≤ 9223372036854775807) → Calls Tryd.prog 30 #[.int .i64 n, .pointer (some ⟨b, 0, none⟩)] W fun e w' => (∃ v', e = .returned v' ∧ OwnI w' W.heap.size v' (nextU E n)) ∧ Ext W w') :
    Calls Tryd.prog 29 #[.int .i64 s, .func (.func 30) #[] #[.pointer (some ⟨b, 0, none⟩)]] w fun e w' => (∃ P c, e = .returned (.slice P ((circF E s).getD []).length c) ∧ SlI w' P c ((circF E s).getD []) ∧ (P = none → circF E s = none ∧ c = 0)) ∧ Ext w w' := by
  have hmm := @run_makeMap Tryd.prog
  have HNX := Lib.hid hnx
  have HS := Lib.hid hs
  have HR := Lib.hid hr
  obtain ⟨M, hM⟩ : ∃ M, w.heap.size + 2 = M := ⟨_, rfl⟩
  have hx0 : Ext w (((w.alloc (.cells #[.int .i64 s] 3)).alloc (.cells #[.slice (some ⟨w.heap.size, 0, none⟩) 1 1] 30)).alloc (.map #[] 0)) := (((Ext.refl w).alloc _).alloc _).alloc _
  have hW0 : WaysR (((w.alloc (.cells #[.int .i64 s] 3)).alloc (.cells #[.slice (some ⟨w.heap.size, 0, none⟩) 1 1] 30)).alloc (.map #[] 0)) (some ⟨w.heap.size + 1, 0, none⟩) 1 [[s]] := by
    have h1 : SlI (w.alloc (.cells #[.int .i64 s] 3)) (some ⟨w.heap.size, 0, none⟩) 1 [s] := SlG.one elemI.hk s rfl rfl
    have h2 := WaysR.one h1
    rw [World.size_alloc] at h2
    exact h2.ext ((Ext.refl _).alloc _)
  have hM0 : MetI (((w.alloc (.cells #[.int .i64 s] 3)).alloc (.cells #[.slice (some ⟨w.heap.size, 0, none⟩) 1 1] 30)).alloc (.map #[] 0)) M [] := by
    have := MetG.made (mk := fun x => Lit.int .i64 x) (P := Tryd.prog) (k := 3) (e := 4) ((w.alloc (.cells #[.int .i64 s] 3)).alloc (.cells #[.slice (some ⟨w.heap.size, 0, none⟩) 1 1] 30))
    rw [World.size_alloc, World.size_alloc] at this
    rw [← hM]
    exact this
  have hM2 : w.heap.size + 1 + 1 = M := hM
  clear hnx hr hs
  go_enter Tryd.func29, Tryd.ntmps29
  go_wp2
  go_step3
  go_wp2
  go_step3
  go_wp2
  have HMw := Lib.hid hM
  clear hM hM2 hmm
  generalize ((w.alloc (.cells #[.int .i64 s] 3)).alloc (.cells #[.slice (some ⟨w.heap.size, 0, none⟩) 1 1] 30)).alloc (.map #[] 0) = W0 at *
  go_loopg [5] (E.length + 1) (fun f v5 W => ∃ (n : Nat) (ws : List (List Int)) (met : List Int) (P : Option Addr) (c : Nat), v5 = .slice P ws.length c ∧ WaysR W P c ws ∧ Hid (LvP E s f n ws met ∧ ∀ w ∈ ws, -9223372036854775808 ≤ endW w ∧ endW w ≤ 9223372036854775807) ∧ MetI W M met ∧ Ext w W)
  case atStart => exact ⟨1, [[s]], [], _, _, rfl, hW0, Lib.hid (And.intro (LvP.first E s) (fun w hw => by rw [List.mem_singleton] at hw; subst hw; exact HS.out)), hM0, hx0⟩
  case round =>
    obtain ⟨n, ws, met, P, c, rfl, hWs, hL, hMet, hx⟩ := hrel
    have hwl := hWs.len
    have hML := hL.out.1.ml
    by_cases hne : ws = []
    · subst hne
      have HN := Lib.hid (hL.out.1.none)
      clear hWs hMet hL
      go_wp2_with (fail)
      try simp only [Exit.inBlock, Exit.then, Exit.noGoto_ret]
      go_ret
      exact ⟨⟨none, 0, by rw [HN.out]; rfl, by rw [HN.out]; exact SlG.nil _ _, fun _ => ⟨HN.out, rfl⟩⟩, hx⟩
    · have hpos : 0 < ws.length := List.length_pos_iff.2 hne
      have c0 : (0 : Int) < ws.length := by omega
      have HNE := Lib.hid hne
      obtain ⟨WL, hWL⟩ : ∃ WL : World, WL = wr := ⟨_, rfl⟩
      rw [← hWL] at hWs hMet hx ⊢
      clear hWL wr hne
      have hNC := hMet.noCells
      have HWS := Lib.hid hWs
      have HMT := Lib.hid hMet
      clear hWs hMet
      go_wp2_with (fail)
      go_loopw [21, 7] (fun i v W2 => ∃ (j : Nat) (v7 : Value), v7 = v ∧ j ≤ ws.length ∧ i = .int .i64 j ∧ Hid (NoBack E s ws j) ∧ WaysO W2 WL.heap.size v7 (expP (nextU E) (ws.take j) met) ∧ MetI W2 M (metP (nextU E) (ws.take j) met) ∧ UpdF (fun i => i = M) WL W2) (fun i _ _ => ws.length - (intOf i).toNat)
      case atStart => exact ⟨0, _, rfl, by omega, rfl, Lib.hid (fun w hw => by simp at hw), WaysO.nil _ _, HMT.out, UpdF.refl _ _⟩
      case round =>
        obtain ⟨j, v7, hv7, hj, rfl, hNB, hO, hMe, hU⟩ := hrel
        subst hv7
        have hMLT : M < WL.heap.size := HMT.out.lt
        have hMw : w.heap.size ≤ M := by have := HMw.out; omega
        have hxr : Ext w wr := UpdF.ext hx hU (fun i hi => by omega)
        by_cases hlt : j < ws.length
        · obtain ⟨l, hl⟩ : ∃ l, ws[j]? = some l := ⟨_, List.getElem?_eq_getElem hlt⟩
          have hln : l.length = n := hL.out.1.len l (List.mem_of_getElem? hl)
          obtain ⟨k1, hk1⟩ : ∃ k1, l.length = k1 + 1 := ⟨l.length - 1, by have := hL.out.1.pos; omega⟩
          have hlne : l ≠ [] := by intro e; rw [e] at hk1; simp at hk1
          obtain ⟨bb, off, Pw, cw, hP, hcell, hsl⟩ := HWS.out.at hl
          subst hP
          obtain ⟨bw, ow, hPw, hend⟩ := hsl.intAt k1 (by omega)
          subst hPw
          have hendv : l.getD k1 0 = endW l := by have := endW_get hlne; rw [hk1] at this; simpa using this
          rw [hendv] at hend
          rw [hk1] at hcell
          have hnb : ∀ {p : Addr} {u : Value}, WL.cell? p = some u → p.block ≠ M := fun {p u} hc e => by
            obtain ⟨o, ho, hn⟩ := hNC
            unfold World.cell? at hc
            rw [e] at hc
            simp only [ho] at hc
            cases o <;> simp at hc
            exact hn _ _ _ rfl
          have hcell2 : wr.cell? ⟨bb, off + j, none⟩ = some (.slice (some ⟨bw, ow, none⟩) (k1 + 1) cw) := hU.cell hcell (hnb hcell)
          have hend2 : wr.cell? ⟨bw, ow + k1, none⟩ = some (.int .i64 (endW l)) := hU.cell hend (hnb hend)
          have HWAY : ∀ W', UpdF (fun i => i = M) WL W' → Calls Tryd.prog 47 #[.slice (some ⟨bw, ow, none⟩) (k1 + 1) cw] W' fun e w' => ∃ v', e = .returned v' ∧ OwnI w' W'.heap.size v' l ∧ Ext W' w' := fun W' hU' => by
            rw [← hk1]
            exact lclone_any (hsl.upd hU' (hNC.off int_pos hsl)) hlne (by have := hL.out.1.fn; omega)
          have HSL := Lib.hid hsl
          have hfn := hL.out.1.fn
          have cj : (j : Int) < ws.length := by omega
          have d1 : IntKind.i64.wrap ((j : Int) + 1) = (j : Int) + 1 := IntWalk.i64_in _ ⟨by omega, by omega⟩
          have d2 : IntKind.i64.wrap ((k1 : Int) + 1 - 1) = (k1 : Int) := by rw [show (k1 : Int) + 1 - 1 = k1 from by omega]; exact IntWalk.i64_in _ ⟨by omega, by omega⟩
          have hN3 := HNX.out wr (endW l) hxr (hL.out.2 l (List.mem_of_getElem? hl))
          have hnsl := nextU_len E (endW l)
          have HNSD := Lib.hid (show (nextU E (endW l)).Nodup from (sortU_sorted _).imp (fun h => by omega))
          have HMEM := Lib.hid (show ∀ x ∈ nextU E (endW l), -9223372036854775808 ≤ x ∧ x ≤ 9223372036854775807 from fun x hx => HR.out _ ((nextU_iff E _ x).1 hx))
          obtain ⟨ns, hns⟩ : ∃ ns, nextU E (endW l) = ns := ⟨_, rfl⟩
          have HNS := Lib.hid hns
          rw [hns] at hN3 hnsl HNSD HMEM
          have HO := Lib.hid hO
          have HME := Lib.hid hMe
          have HU := Lib.hid hU
          have HXR := Lib.hid hxr
          have HHL := Lib.hid hl
          clear hns hO hMe hU hxr hl hsl hcell hend hendv
          go_wp2_with (go_at_call 30; refine hN3.mono ?_)
          rintro e W3 ⟨⟨v3, rfl, ho3⟩, hx3⟩
          have hno := fun g => own_lt (g := g) ho3
          obtain ⟨Pn, cn, rfl, hsn⟩ := ho3.slG elemI (by omega)
          have hoff3 : Off (fun i => i = M ∨ v7.ownBlock = some i) Pn ns := fun hne b off e hb => by
            rcases hb with hb | hb
            · exact (MetI.noCells (HME.out.ext hx3)).off int_pos hsn hne b off e hb
            · have h1 := (HO.out.base_ hb).2
              have h2 := (hno b (by rw [e]; rfl)).1
              omega
          have HSN := Lib.hid (And.intro hsn hoff3)
          have HX3 := Lib.hid hx3
          have hncap := hsn.le
          have hncap2 := hsn.cap
          clear hN3 hno hsn hoff3 ho3 hcell2 hend2 hx3
          go_wp2_with (fail)
          go_loopw [34, 7] (fun i v W4 => ∃ (k : Nat) (v8 : Value), v8 = v ∧ k ≤ ns.length ∧ i = .int .i64 k ∧ Hid (s ∉ ns.take k) ∧ WaysO W4 WL.heap.size v8 (expP (nextU E) (ws.take j) met ++ (newK (metP (nextU E) (ws.take j) met) ns k).map (fun v => l ++ [v])) ∧ MetI W4 M (metP (nextU E) (ws.take j) met ++ newK (metP (nextU E) (ws.take j) met) ns k) ∧ UpdF (fun i => i = M) WL W4 ∧ UpdF (fun i => i = M ∨ v7.ownBlock = some i) W3 W4 ∧ Hid (∀ g, v8.ownBlock = some g → v7.ownBlock = some g ∨ W3.heap.size ≤ g)) (fun i _ _ => ns.length - (intOf i).toNat)
          case atStart => exact ⟨0, _, rfl, by omega, rfl, Lib.hid (by simp), by simpa [newK] using HO.out.ext HX3.out, by simpa [newK] using HME.out.ext HX3.out, HU.out.trans (UpdF.of_ext HX3.out _), UpdF.refl _ _, Lib.hid (fun g hg => .inl hg)⟩
          case round =>
            obtain ⟨k, v8, hv8, hk, rfl, hsk, hO4, hM4, hU4, hU3, hown⟩ := hrel
            subst hv8
            have hMLT3 : M < wr.heap.size := hM4.lt
            by_cases hltk : k < ns.length
            · obtain ⟨x, hx0⟩ : ∃ x, ns[k]? = some x := ⟨_, List.getElem?_eq_getElem hltk⟩
              obtain ⟨bn, on, hPn, hxc⟩ := (HSN.out.1.upd hU3 HSN.out.2).intAt k hltk
              subst hPn
              rw [List.getD_eq_getElem?_getD, hx0, Option.getD_some] at hxc
              obtain ⟨hxa, hxb⟩ := HMEM.out x (List.mem_of_getElem? hx0)
              have ck : (k : Int) < ns.length := by omega
              have dk : IntKind.i64.wrap ((k : Int) + 1) = (k : Int) + 1 := IntWalk.i64_in _ ⟨by omega, by omega⟩
              have hkey := key_i hxa hxb
              by_cases hxs : x = s
              · have HC := Lib.hid (hL.out.1.found HHL.out hNB.out (by rw [HNS.out, ← hxs]; exact List.mem_of_getElem? hx0))
                have e1 : (x == s) = true := by rw [hxs]; simp
                have HWL := Lib.hid (show SlI wr (some ⟨bw, ow, none⟩) cw l from HSL.out.upd hU4 (hNC.off int_pos HSL.out))
                have HXW := Lib.hid (show Ext w wr from UpdF.ext hx hU4 (fun i hi => by omega))
                clear hxs hO4 hM4 hU4 hU3 hown hsk hkey
                go_wp2_with (fail)
                try simp only [Exit.inBlock, Exit.then, Exit.noGoto_ret]
                go_ret
                exact ⟨⟨some ⟨bw, ow, none⟩, cw, by rw [HC.out, Option.getD_some, hk1]; rfl, by rw [HC.out]; exact HWL.out.ext ((Ext.refl _).alloc _), fun e => by cases e⟩, HXW.out.alloc _⟩
              · have e1 : (x == s) = false := by simpa using hxs
                have HSK := Lib.hid (show s ∉ ns.take (k + 1) from by
                  rw [List.take_add_one, hx0, Option.toList_some, List.mem_append, List.mem_singleton]
                  rintro (h | h)
                  · exact hsk.out h
                  · exact hxs h.symm)
                have hlk := MetG.look hM4 keyedI Tryd.underlying90 Tryd.underlying4 (zeroB wr) hkey
                rw [show decide (x ∈ metP (nextU E) (ws.take j) met ++ newK (metP (nextU E) (ws.take j) met) ns k) = decide (x ∈ metP (nextU E) (ws.take j) met) from by rw [decide_eq_decide]; exact newK_mem HNSD.out hx0] at hlk
                have hns1 := newK_succ (met := metP (nextU E) (ws.take j) met) hx0
                by_cases hm : x ∈ metP (nextU E) (ws.take j) met
                · rw [decide_eq_true hm] at hlk
                  rw [if_neg (fun h => h hm), List.append_nil] at hns1
                  have HN1 := Lib.hid hns1
                  have HO4 := Lib.hid (And.intro hO4 (And.intro hM4 (And.intro hU4 hU3)))
                  clear hm hns1 hO4 hM4 hU4 hU3 hxs hsk
                  go_wp2_with (fail)
                  go_roundw
                  case rel => exact ⟨k + 1, _, rfl, by omega, by go_num, HSK, by rw [HN1.out]; exact HO4.out.1, by rw [HN1.out]; exact HO4.out.2.1, HO4.out.2.2.1, HO4.out.2.2.2, hown⟩
                  case measure => simp [intOf, dk]; omega
                · rw [decide_eq_false hm] at hlk
                  rw [if_pos hm] at hns1
                  have hmore := more_len (E := E) ws met j l k
                  rw [HNS.out] at hmore
                  have HN1 := Lib.hid hns1
                  have HO4 := Lib.hid (And.intro hO4 (And.intro hM4 (And.intro hU4 hU3)))
                  obtain ⟨hmo1, hmo2⟩ := hmore
                  have HLB := Lib.hid (show (metP (nextU E) (ws.take j) met ++ newK (metP (nextU E) (ws.take j) met) ns k).length < 9223372036854775807 from by omega)
                  clear hm hns1 hO4 hM4 hU4 hU3 hxs hsk hmo2
                  go_wp2_with (at_mapUpdate; refine wpList_store_met rfl _ _ _ 90 rfl HO4.out.2.1 keyedI Tryd.underlying90 Tryd.underlying4 HLB.out int_inj rfl _ x rfl rfl trivial hkey ?_)
                  intro w5 hM5 hg5
                  have hu5 : UpdF (fun i => i = M) wr w5 := (UpdF.of_grown hg5).mono (fun i hi => by injection hi with hi; exact hi.symm)
                  have hU5 := HO4.out.2.2.1.trans hu5
                  have hO5 := HO4.out.1.upd (MetI.noCells HO4.out.2.1) hu5
                  have hU35 := HO4.out.2.2.2.trans (hu5.mono (fun i hi => .inl hi))
                  have HM5 := Lib.hid hM5
                  have HO5 := Lib.hid (And.intro hO5 (And.intro hU5 hU35))
                  have hC5 := HWAY w5 hU5
                  have hsz5 := hu5.size
                  have hsz3 := HO4.out.2.2.2.size
                  have hszL := HO4.out.2.2.1.size
                  clear hM5 hg5 hu5 hU5 hO5 hU35
                  go_wp2_with (go_at_call 47; refine hC5.mono ?_)
                  rintro e w6 ⟨v6, rfl, ho6, hx6⟩
                  have HO6 := Lib.hid ho6
                  have HX6 := Lib.hid hx6
                  have hsz6 := hx6.size
                  clear ho6 hx6 hC5
                  go_wp2_with (at_builtin; refine wpList_app_U _ elemI rfl _ _ rfl (base := w5.heap.size) rfl (HO6.out.ext ((Ext.refl _).alloc _)) (m := [x]) rfl (SlG.one elemI.hk _ ?c1 ?c2) ?c3 ?c4 ?c5 ?c6 ?_)
                  case c1 => rfl
                  case c2 => rfl
                  case c3 => intro e; cases e
                  case c4 => simp; omega
                  case c5 => simp; omega
                  case c6 => simp; omega
                  intro v8' w8 ho8 hg8 hb8 hob8
                  obtain ⟨l', hl'⟩ : ∃ l', l ++ [x] = l' := ⟨_, rfl⟩
                  have hll' : l'.length = k1 + 2 := by rw [← hl', List.length_append, hk1]; rfl
                  rw [hl'] at ho8
                  have HL' := Lib.hid (And.intro hl' hll')
                  have hno8 := fun g => own_lt (g := g) ho8
                  obtain ⟨P8, c8, rfl, hs8⟩ := ho8.slG elemI (by omega)
                  have hx58 : Ext w5 w8 := below_ext (HX6.out.alloc _) hb8 (Nat.le_refl _)
                  have hsz8 := hx58.size
                  obtain ⟨rows, r1, r2, r3, r4⟩ := ((HO5.out.1.ext hx58).ext ((Ext.refl w8).alloc (.cells #[.slice P8 l'.length c8] 30))).ex
                  have hrl : rows.length ≤ E.length := by
                    have := congrArg List.length r2
                    rw [List.length_map] at this
                    omega
                  have HR4 := Lib.hid (And.intro r2 (And.intro r3 r4))
                  have HR1 := Lib.hid r1
                  have HS8 := Lib.hid (And.intro hs8 hno8)
                  have HX8 := Lib.hid hx58
                  clear hl' hll' r1 r2 r3 r4 hs8 hno8 hx58 hg8 hb8 hob8 ho8
                  go_wp2_with (at_builtin; refine wpList_app_U _ elemW rfl _ _ rfl (base := WL.heap.size) rfl HR1.out (m := [(P8, c8, l')]) rfl (SlG.one elemW.hk _ ?d1 ?d2) ?d3 ?d4 ?d5 ?d6 ?_)
                  case d1 => rfl
                  case d2 => rfl
                  case d3 => intro e; cases e
                  case d4 => simp; omega
                  case d5 => simp; omega
                  case d6 => simp; omega
                  intro v9 w9 ho9 hg9 hb9 hob9
                  have hown4 : ∀ g, v8.ownBlock = some g → WL.heap.size ≤ g ∧ g < wr.heap.size := fun g hg => HO4.out.1.base_ hg
                  have hO9 := ways_push HR4.out.1 HR4.out.2.1 HR4.out.2.2 (x := (P8, c8, l')) (HS8.out.1.ext ((Ext.refl _).alloc _)) (fun g hg hne b off e hb => by
                    have h1 := hown4 g hg
                    simp only at e
                    have h2 := HS8.out.2 b (by rw [e]; rfl)
                    omega) ho9 hg9 (by rw [World.size_alloc]; exact hob9)
                  have hx59 := HX8.out.alloc (.cells #[.slice P8 l'.length c8] 30)
                  have hM9 : MetI w9 M _ := MetG.kept (HM5.out.ext hx59) hg9 (fun e => by
                    have := hown4 M e.symm
                    omega)
                  have hU9 : UpdF (fun i => i = M) WL w9 := (HO5.out.2.1.trans (UpdF.of_ext hx59 _)).trans_new (UpdF.of_grown hg9) (fun i hi => .inr (hown4 i hi).1)
                  have hU39 : UpdF (fun i => i = M ∨ v7.ownBlock = some i) W3 w9 := (HO5.out.2.2.trans (UpdF.of_ext hx59 _)).trans_new (UpdF.of_grown hg9) (fun i hi => by
                    rcases hown.out i hi with h | h
                    · exact .inl (.inr h)
                    · exact .inr h)
                  have hown9 := Lib.hid (show ∀ g, v9.ownBlock = some g → v7.ownBlock = some g ∨ W3.heap.size ≤ g from fun g hg => by
                    rcases hob9 with h | h
                    · exact hown.out g (by rw [← h]; exact hg)
                    · rw [h] at hg
                      injection hg with hg
                      right
                      try rw [World.size_alloc] at hg
                      omega)
                  have HO9 := Lib.hid (And.intro hO9 (And.intro hM9 (And.intro hU9 hU39)))
                  clear hO9 hM9 hU9 hU39 ho9 hg9 hb9 hob9 hx59
                  go_wp2_with (fail)
                  go_roundw
                  case rel => exact ⟨k + 1, _, rfl, by omega, by go_num, HSK, by rw [HN1.out, List.map_append, ← List.append_assoc, List.map_cons, List.map_nil, HL'.out.1]; exact HO9.out.1, by rw [HN1.out]; first | exact HO9.out.2.1 | (rw [← List.append_assoc]; exact HO9.out.2.1), HO9.out.2.2.1, HO9.out.2.2.2, hown9⟩
                  case measure => simp [intOf, dk]; omega
            · obtain rfl : k = ns.length := by omega
              have hexp := exp_take (E := E) (met := met) HHL.out
              rw [HNS.out] at hexp
              have HEX := Lib.hid hexp
              have HNB := Lib.hid (hNB.out.succ HHL.out (by rw [HNS.out]; have := hsk.out; rwa [List.take_length] at this))
              have HO4 := Lib.hid (And.intro hO4 (And.intro hM4 hU4))
              have ck : ¬ (ns.length : Int) < ns.length := by omega
              clear hexp hO4 hM4 hU4 hU3 hown hsk
              go_wp2_with (fail)
              go_roundw
              case rel => exact ⟨j + 1, _, rfl, by omega, by go_num, HNB, by rw [HEX.out.1]; exact HO4.out.1, by rw [HEX.out.2]; exact HO4.out.2.1, HO4.out.2.2⟩
              case measure => simp [intOf, d1]; omega
        · obtain rfl : j = ws.length := by omega
          rw [List.take_length] at hO hMe
          obtain ⟨f', hf', hL'⟩ := hL.out.1.step HNE.out hNB.out
          have hwl' := hL'.wl
          obtain ⟨P', c', rfl, hR'⟩ := hO.read (by omega)
          have HR' := Lib.hid (And.intro hR' (And.intro hL' hMe))
          have HXR := Lib.hid hxr
          have cj : ¬ (ws.length : Int) < ws.length := by omega
          clear hR' hL' hO hMe hxr hU
          go_wp2_with (fail)
          go_roundg f'
          case measure => omega
          case rel => exact ⟨n + 1, _, _, P', c', rfl, HR'.out.1, Lib.hid (And.intro HR'.out.2.1 (fun x hx => by
            obtain ⟨xs, w, bs, v, e1, rfl, h3, _⟩ := expP_iff.1 hx
            rw [endW_app]
            exact HR.out _ ((nextU_iff E _ v).1 h3))), HR'.out.2.2, HXR.out⟩
end
section
open Go.RowKit
set_option linter.unusedVariables false
set_option maxRecDepth 20000
section
variable {P : Program} {Q : Exit → Act → World → Prop} {a : Act} {w : World} {f : FuncId}

/-- The statement: a range over a function that has its contract. -/
theorem wpAt_rangeFunc2 {g : Operand} {ps : Array Tmp} {assign body : Code} {fn : Func} (hf : P.funcs[f]? = some fn) {gf : Nat} {lb : Array Value}
    (hg : a.eval g = .func (.func gf) #[] lb) (eg : ∀ args w, (callFunc gf args).run P w = .ok (.enter gf args) w)
    {encs : Nat → Array Value} {N : Nat} {Kp : World → Prop} (hseq : SeqP P gf lb encs N Kp) (hps : ∀ i, (encs i).size = ps.size)
    (I : Nat → World → Prop) (Ix : Nat → Code → World → Prop) (Ip : Nat → List PanicEntry → World → Prop)
    (hIe : ∀ i A B, I i A → Ext A B → I i B) (hIxe : ∀ i c A B, Ix i c A → Ext A B → Ix i c B)
    (hIu : ∀ i A r r', I i A → A.heap[w.heap.size + 1]? = some (.loop r) → I i (A.putObj (w.heap.size + 1) (.loop r'))) (hIxu : ∀ i c A r r', Ix i c A → A.heap[w.heap.size + 1]? = some (.loop r) → Ix i c (A.putObj (w.heap.size + 1) (.loop r')))
    (hIs : ∀ i A, I i A → Kp A) (h0 : I 0 w)
    (hround : ∀ i W r, I i W → w.heap.size + 2 ≤ W.heap.size → W.heap[w.heap.size]? = some (.deferred (some [])) → W.heap[w.heap.size + 1]? = some (.loop r) → i < N →
      assign.wpIn (Fence.wide.inRound (w.heap.size + 1)) 0 P (Exit.then (fun a' W' => W'.heap[w.heap.size]? = W.heap[w.heap.size]? ∧ W'.heap[w.heap.size + 1]? = W.heap[w.heap.size + 1]? ∧
        ∀ W'' r', W'' = W'.putObj (w.heap.size + 1) (.loop r') → body.wpIn (Fence.wide.inRound (w.heap.size + 1)) 0 P (postP w.heap.size I Ix Ip i W'') a' W'') (fun _ _ _ => False))
        { tmps := (ps.zip (encs i)).foldl (fun t (p, v) => t.setIfInBounds p v) a.tmps, defers := [] } W)
    (hdone : ∀ W, I N W → W.heap[w.heap.size]? = some (.deferred (some [])) → Q .normal { a with defers := { target := .collected w.heap.size, args := #[] } :: a.defers } W)
    (hstop : ∀ i c W, i < N → Ix i c W → W.heap[w.heap.size]? = some (.deferred (some [])) → c.wp P Q { a with defers := { target := .collected w.heap.size, args := #[] } :: a.defers } W)
    (hpanic : ∀ i ch W, i < N → Ip i ch W → W.heap[w.heap.size]? = some (.deferred (some [])) → Q (.panic ch) { a with defers := { target := .collected w.heap.size, args := #[] } :: a.defers } W) :
    wpAt f P (Code.rangeFunc g ps assign body) Q a w := by
  intro b k cs hro hb
  obtain ⟨rec, hrec⟩ : ∃ rec : LoopState → Option Code → Loop, rec = fun st pe => { state := st, pending := pe, fn := b.fn, tmps := a.tmps, params := ps, assign, body, defers := w.heap.size } := ⟨_, rfl⟩
  obtain ⟨W1, hW1⟩ : ∃ W1, (w.alloc (.deferred (some []))).alloc (.loop (rec .ready none)) = W1 := ⟨_, rfl⟩
  have hL1 : W1.heap[w.heap.size + 1]? = some (.loop (rec .ready none)) := by
    rw [← hW1]; have := World.alloc_heap_new (w.alloc (.deferred (some []))) (.loop (rec .ready none)); rwa [World.size_alloc] at this
  have hK1 : W1.heap[w.heap.size]? = some (.deferred (some [])) := by
    rw [← hW1]; exact (Below.heap_alloc _ _ _ (by simp)).trans (World.alloc_heap_new w _)
  have hE1 : Ext w W1 := by rw [← hW1]; exact ((Ext.refl w).alloc _).alloc _
  have hI1 : I 0 W1 := hIe _ _ _ h0 hE1
  have he : (Instr.enterLoop b.fn a.tmps ps assign body b.roundOf).run P w = .ok (w.heap.size + 1, [{ target := .collected w.heap.size, args := #[] }]) W1 := by
    rw [hro, ← hW1, hrec]; exact run_enterLoop_outer _ _ _ _ _
  have hres : (resolve a.eval (rangeCall g (w.heap.size + 1)) 0).run P W1 = .ok { target := .fn (.func gf) lb, args := #[.func (.yield (w.heap.size + 1)) #[] #[]] } W1 := by
    simp only [resolve, hg]
    simp [go_sem]
  have hinv : (invoke (Target.fn (.func gf) lb) #[.func (.yield (w.heap.size + 1)) #[] #[]]).run P W1 = .ok (.enter gf (#[.func (.yield (w.heap.size + 1)) #[] #[]] ++ lb)) W1 := by
    simp [invoke, go_sem, eg]
  have h0' : (lone (b.atR a (.code (.rangeFunc g ps assign body) :: k)) cs w).fenced P Fence.wide :=
    fenced_lone (.inl trivial) (fun _ _ => trivial) (room_wide _)
  have henter := stepR_rangeFunc (P := P) (b := b) (a := a) (k := k) (cs := cs) (w := w) he hres hinv
  have hcall := hseq (w.heap.size + 1)
    (fun i W => I i W ∧ W.heap[w.heap.size + 1]? = some (.loop (rec .ready none)) ∧ W.heap[w.heap.size]? = some (.deferred (some [])))
    (fun i W => ∃ c, Ix i c W ∧ W.heap[w.heap.size + 1]? = some (.loop (rec .done (some c))) ∧ W.heap[w.heap.size]? = some (.deferred (some [])))
    (fun i ch W => Ip i ch W ∧ W.heap[w.heap.size]? = some (.deferred (some [])))
    W1
    (fun i A B ⟨h1, h2, h3⟩ hx => ⟨hIe i A B h1 hx, hx.heap h2, hx.heap h3⟩)
    (fun i A B ⟨c, h1, h2, h3⟩ hx => ⟨c, hIxe i c A B h1 hx, hx.heap h2, hx.heap h3⟩)
    (fun i A h => hIs i A h.1)
    ?_ ⟨hI1, hL1, hK1⟩
  · have hroom : Fence.wide.room ((b.atR { a with defers := [{ target := .collected w.heap.size, args := #[] }] ++ a.defers } (.inRangeFunc (w.heap.size + 1) :: k) :: cs).length + 1 + 0) := room_wide _
    obtain ⟨e, w₃, fr, hR, hsteps, hfn, hleave⟩ := hcall.2 (b.atR { a with defers := [{ target := .collected w.heap.size, args := #[] }] ++ a.defers } (.inRangeFunc (w.heap.size + 1) :: k) :: cs) hroom
    rcases hR with ⟨⟨v, rfl⟩, hR⟩ | ⟨i, ch, hi, rfl, hp, hD⟩
    · have hl : (lone fr (b.atR { a with defers := [{ target := .collected w.heap.size, args := #[] }] ++ a.defers } (.inRangeFunc (w.heap.size + 1) :: k) :: cs) w₃).fenced P Fence.wide := fenced_leaving trivial hroom hleave
      have fin : ∀ (jump : Option Code) (st : LoopState), st ≠ .busy → w₃.heap[w.heap.size + 1]? = some (.loop (rec st jump)) →
          StepsIn (Machine.fenced P Fence.wide) P (lone (b.atR a (.code (.rangeFunc g ps assign body) :: k)) cs w)
            (lone (b.atR { a with defers := [{ target := .collected w.heap.size, args := #[] }] ++ a.defers } ((jump.map Item.code).toList ++ k)) cs (w₃.putObj (w.heap.size + 1) (.loop (rec .exhausted jump)))) := by
        intro jump st hst hl3
        have hend := run_endLoop (P := P) hl3 (by rw [hrec]; exact hst)
        rw [hrec] at hend
        refine .head h0' henter (StepsIn.trans hsteps (.head hl ?_ (.one (fenced_calm (fr := b.atR { a with defers := [{ target := .collected w.heap.size, args := #[] }] ++ a.defers } (.endRangeFunc (w.heap.size + 1) :: k)) trivial (n := 0) (room_wide _) rfl) (stepR_endRangeFunc (by rw [hrec]; exact hend)))))
        rw [← finish_atR_inRangeFunc (w.heap.size + 1) v]; exact step_leave_returned hleave
      rcases hR with ⟨hi, hL, hD⟩ | ⟨i, hlt, c, hi, hL, hD⟩
      · exact ⟨.normal, _, _, hdone _ (hIu _ _ _ _ hi hL) ((World.putObj_heap_other (by omega)).trans hD), fin none _ (by simp) hL⟩
      · obtain ⟨e', a'', w₅, hq, harr⟩ := (wpIn_wide (n := 0)).2 (hstop i c _ hlt (hIxu _ _ _ _ (rec .exhausted (some c)) hi hL) ((World.putObj_heap_other (by omega)).trans hD)) b k cs hro trivial (room_wide _)
        exact ⟨e', a'', w₅, hq, .of_steps (fin (some c) _ (by simp) hL) harr⟩
    · have hl : (lone fr (b.atR { a with defers := [{ target := .collected w.heap.size, args := #[] }] ++ a.defers } (.inRangeFunc (w.heap.size + 1) :: k) :: cs) w₃).fenced P Fence.wide := fenced_leaving trivial hroom hleave
      refine ⟨.panic ch, _, w₃, hpanic i ch w₃ hi hp hD, .inRangeFunc (w.heap.size + 1) :: k, .head h0' henter (StepsIn.trans hsteps (.one hl ?_))⟩
      rw [List.singleton_append, ← Frame.raise_atR]; exact step_leave_panicked hleave
  · rintro i W ⟨hi, hl, hD⟩ hlt
    have hsz : w.heap.size + 1 < W.heap.size := (Array.getElem?_eq_some_iff.1 hl).1
    have hy := run_yield (P := P) (args := encs i) hl (by rw [hrec]; exact hps i)
    rw [hrec] at hy
    refine ⟨b.fn, _, assign, body, hy, roundIn_panics (by rw [hb]; exact hf) (wpIn_mono (hround i W _ hi (by omega) hD hl hlt) ?_)⟩
    rintro e a' W' hp
    cases e with
    | exit id => exact hp.elim
    | goto t => exact hp.elim
    | ret => exact hp.elim
    | panic ch => exact hp.elim
    | outgrown => exact hp.elim
    | normal =>
      obtain ⟨hD', hl', hbody⟩ := hp
      rw [hl] at hl'
      rw [hD] at hD'
      have hsz' : w.heap.size + 1 < W'.heap.size := (Array.getElem?_eq_some_iff.1 hl').1
      refine ⟨_, run_beginRound hl' (by rw [hrec]), wpIn_mono (hbody _ _ rfl) ?_⟩
      have hl2 : (W'.putObj (w.heap.size + 1) (.loop { rec .ready none with state := .busy })).heap[w.heap.size + 1]? = some (.loop { rec .ready none with state := .busy }) := World.putObj_heap_same hsz'
      have hD2 : (W'.putObj (w.heap.size + 1) (.loop { rec .ready none with state := .busy })).heap[w.heap.size]? = some (.deferred (some [])) := (World.putObj_heap_other (by omega)).trans hD'
      generalize W'.putObj (w.heap.size + 1) (.loop { rec .ready none with state := .busy }) = W2 at hl2 hD2
      have fin : ∀ (jump : Option Code) (W3 : World), W3.heap[w.heap.size]? = W2.heap[w.heap.size]? → W3.heap[w.heap.size + 1]? = W2.heap[w.heap.size + 1]? →
          (Instr.endRound (w.heap.size + 1) jump).run P W3 = .ok (.bool jump.isNone) (W3.putObj (w.heap.size + 1) (.loop (rec (if jump.isNone then .ready else .done) jump))) ∧
          (W3.putObj (w.heap.size + 1) (.loop (rec (if jump.isNone then .ready else .done) jump))).heap[w.heap.size + 1]? = some (.loop (rec (if jump.isNone then .ready else .done) jump)) ∧
          (W3.putObj (w.heap.size + 1) (.loop (rec (if jump.isNone then .ready else .done) jump))).heap[w.heap.size]? = some (.deferred (some [])) := fun jump W3 hd3 hl3 => by
        rw [hl2] at hl3
        rw [hD2] at hd3
        have := run_endRound (P := P) jump hl3
        rw [hrec] at this hl3 ⊢
        exact ⟨this, World.putObj_heap_same (Array.getElem?_eq_some_iff.1 hl3).1, (World.putObj_heap_other (by omega)).trans hd3⟩
      rintro e a3 W3 hp
      cases e with
      | normal =>
        obtain ⟨hd3, hk3, hi3⟩ := hp
        obtain ⟨hr, hl4, hk4⟩ := fin none W3 hd3 hk3
        exact ⟨_, _, hr, .inl ⟨rfl, hIu _ _ _ _ hi3 (hk3.trans hl2), hl4, hk4⟩⟩
      | ret =>
        obtain ⟨hd3, hk3, hi3⟩ := hp
        obtain ⟨hr, hl4, hk4⟩ := fin (some .ret) W3 hd3 hk3
        exact ⟨_, _, hr, .inr (.inl ⟨rfl, .ret, hIxu _ _ _ _ _ hi3 (hk3.trans hl2), hl4, hk4⟩)⟩
      | exit id =>
        obtain ⟨hd3, hk3, hi3⟩ := hp
        obtain ⟨hr, hl4, hk4⟩ := fin (some (.exit id)) W3 hd3 hk3
        exact ⟨_, _, hr, .inr (.inl ⟨rfl, .exit id, hIxu _ _ _ _ _ hi3 (hk3.trans hl2), hl4, hk4⟩)⟩
      | goto t =>
        obtain ⟨hd3, hk3, hi3⟩ := hp
        obtain ⟨hr, hl4, hk4⟩ := fin (some (.goto t)) W3 hd3 hk3
        exact ⟨_, _, hr, .inr (.inl ⟨rfl, .goto t, hIxu _ _ _ _ _ hi3 (hk3.trans hl2), hl4, hk4⟩)⟩
      | panic ch =>
        obtain ⟨hd3, ha3, hi3⟩ := hp
        exact ⟨ha3, .inr (.inr ⟨ch, rfl, hi3, by rw [hd3]; exact hD2⟩)⟩
      | outgrown => exact hp.elim
end
end
end Go.Proofs.YtaciedooeeklpaaDoor
