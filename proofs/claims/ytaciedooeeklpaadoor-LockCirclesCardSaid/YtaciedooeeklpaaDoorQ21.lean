/- LmX (merged by group.py) -/
import Derived.Test.YtaciedooeeklpaaDoorQ20
import Derived.Deep.LoopGhost
import Derived.Laws.Cover3
namespace Go.Proofs.YtaciedooeeklpaaDoor
section
open Go.RowKit Go.Maps
set_option linter.unusedVariables false
set_option linter.unusedSimpArgs false
set_option linter.unusedSectionVars false
set_option maxRecDepth 100000
attribute [local go_sem] Oper.semAt_some

theorem own_one {W : World} {g base : Nat} {x : Int} (hb : base ≤ g) (h : W.heap[g]? = some (.cells #[.int .i64 x] 3 (0, 0))) : OwnI W base (.slice (some ⟨g, 0, none⟩) 1 1) [x] :=
  ⟨rfl, .inr ⟨g, 1, #[.int .i64 x], rfl, hb, h, Nat.le_refl _, by unfold maxLen; omega, rfl, rfl⟩⟩
theorem own_none {α : Type} {cs : α → List Value} {e : TypeId} {k : Nat} {w : World} {base n c : Nat} {P : Option Addr} {l : List α} (h : OwnG cs e k w base (.slice P n c) l) : P = none → c = 0 := fun hp => by
  rcases h.2 with ⟨h1, _⟩ | ⟨g, cap, cur, h1, _⟩
  · injection h1
  · injection h1 with h1; rw [hp] at h1; cases h1
def havK (nx : List (List Int)) (v : Int) (n : Nat) : Option Nat := (List.range n).foldl (fun h n => if endW (nx.getD n []) = v then some n else h) none
def havV : Option Nat → Int
  | none => -1
  | some i => i
theorem havK_succ {nx : List (List Int)} {v : Int} {n : Nat} {y : List Int} (hy : nx[n]? = some y) : havK nx v (n + 1) = if endW y = v then some n else havK nx v n := by
  unfold havK
  rw [List.range_succ, List.foldl_append, List.foldl_cons, List.foldl_nil, List.getD_eq_getElem?_getD, hy, Option.getD_some]
theorem havK_all (nx : List (List Int)) (v : Int) : havK nx v nx.length = haveR nx v := rfl
set_option maxHeartbeats 16000000 in
theorem rcircle_any (P : Option Addr) (cap : Nat) (l : List Ed) (s : Int) (w : World) (h : SlE w P cap l) (hl : l.length ≤ 1000) :
    Calls Tryd.prog 34 #[.slice P l.length cap, .int .i64 s] w fun e w' => (∃ P' c', e = .returned (.tuple #[.slice P' ((circF l s).getD []).length c', .bool (circF l s).isSome]) ∧ SlI w' P' c' ((circF l s).getD [])) ∧ Ext w w' := by
  have hcap := h.cap
  have hlec := h.le
  obtain ⟨W0, hW0⟩ : ∃ W0, ((w.alloc (.cells #[.int .i64 s] 3)).alloc (.cells #[.slice (some ⟨w.heap.size, 0, none⟩) 1 1] 30)).alloc (.cells #[.int .i64 s] 3) = W0 := ⟨_, rfl⟩
  have hx0 : Ext w W0 := by rw [← hW0]; exact (((Ext.refl w).alloc _).alloc _).alloc _
  have hWs0 : WaysR W0 (some ⟨w.heap.size + 1, 0, none⟩) 1 [[s]] := by
    have h1 : SlI (w.alloc (.cells #[.int .i64 s] 3)) (some ⟨w.heap.size, 0, none⟩) 1 [s] := SlG.one elemI.hk s rfl rfl
    have h2 := WaysR.one h1
    rw [World.size_alloc] at h2
    rw [← hW0]
    exact h2.ext ((Ext.refl _).alloc _)
  have hM0 : OwnI W0 w.heap.size (.slice (some ⟨w.heap.size + 2, 0, none⟩) 1 1) [s] := by
    refine own_one (by omega) ?_
    have := World.alloc_heap_new ((w.alloc (.cells #[.int .i64 s] 3)).alloc (.cells #[.slice (some ⟨w.heap.size, 0, none⟩) 1 1] 30)) (.cells #[.int .i64 s] 3)
    rw [World.size_alloc, World.size_alloc] at this
    rw [← hW0]
    exact this
  have HH := Lib.hid h
  have q0n : ∀ w : World, (binOp .eql 30 (.slice none 0 0) (.slice none 0 0)).run Tryd.prog w = .ok (.bool true) w := fun w => Lib.run_eql_slice_nil_nil w _ _ Tryd.underlying30
  have q0s : ∀ (w : World) (a : Addr) (n c : Nat), (binOp .eql 30 (.slice (some a) n c) (.slice none 0 0)).run Tryd.prog w = .ok (.bool false) w := fun w a n c => Lib.run_eql_slice_nil w _ _ (some a) n c 0 0 Tryd.underlying30
  have q1n : ∀ w : World, (binOp .neq 30 (.slice none 0 0) (.slice none 0 0)).run Tryd.prog w = .ok (.bool false) w := fun w => run_neq_slice_nil _ _ _ none 0 0 Tryd.underlying30
  have q1s : ∀ (w : World) (a : Addr) (n c : Nat), (binOp .neq 30 (.slice (some a) n c) (.slice none 0 0)).run Tryd.prog w = .ok (.bool true) w := fun w a n c => run_neq_slice_nil _ _ _ (some a) n c Tryd.underlying30
  clear h
  go_enter Tryd.func34, Tryd.ntmps34
  go_wp2_with (fail)
  try rw [hW0]
  clear hW0
  go_loopg [6, 7] (l.length + 1) (fun f v6 v7 W => ∃ (n : Nat) (ws : List (List Int)) (met : List Int) (P6 : Option Addr) (c6 : Nat) (u7 : Value), u7 = v7 ∧ v6 = .slice P6 ws.length c6 ∧ WaysR W P6 c6 ws ∧ Hid (LvQ l s f n ws met) ∧ OwnI W w.heap.size u7 met ∧ Ext w W)
  case atStart => exact ⟨1, [[s]], [s], _, _, _, rfl, rfl, hWs0, Lib.hid (LvQ.first l s), hM0, hx0⟩
  case round =>
    obtain ⟨n, ws, met, P6, c6, v7, hv7, rfl, hWs, hL, hMt, hx⟩ := hrel
    subst hv7
    have hwl := hWs.len
    have hwl2 := hL.out.wl
    have hml := hL.out.ml
    have hfn := hL.out.fn
    by_cases hne : ws = []
    · subst hne
      have HN := Lib.hid (hL.out.no)
      clear hWs hMt hL
      go_wp2_with (fail)
      go_ret2
      exact ⟨⟨none, 0, by rw [HN.out]; rfl, by rw [HN.out]; exact SlG.nil _ _⟩, hx⟩
    · have hpos : 0 < ws.length := List.length_pos_iff.2 hne
      have c0 : (0 : Int) < ws.length := by omega
      have HNE := Lib.hid hne
      obtain ⟨WL, hWL⟩ : ∃ WL : World, WL = wr := ⟨_, rfl⟩
      rw [← hWL] at hWs hMt hx ⊢
      clear hWL wr hne
      obtain ⟨Pm, cm, hv7, hms⟩ := hMt.slG elemI (by omega)
      subst hv7
      have hmc := hms.cap
      have hmc2 := hms.le
      have HW := Lib.hid (And.intro hWs (And.intro hMt hms))
      clear hWs hMt hms
      go_wp2_with (fail)
      go_loopw [11, 8, 9, 10] (fun i v8 v9 v10 W2 => ∃ (j : Nat) (u8 u9 u10 : Value), u8 = v8 ∧ u9 = v9 ∧ u10 = v10 ∧ j ≤ ws.length ∧ i = .int .i64 j ∧ LvM WL W2 WL.heap.size (stR s met (candR l (ws.take j))) u8 u9 u10 ∧ Ext WL W2) (fun i _ _ _ _ => ws.length - (intOf i).toNat)
      case atStart => exact ⟨0, _, _, _, rfl, rfl, rfl, by omega, rfl, LvM.first _ _ _, Ext.refl _⟩
      case round =>
        obtain ⟨j, v8, v9, v10, hv8, hv9, hv10, hj, rfl, hM, hx2⟩ := hrel
        subst hv8 hv9 hv10
        by_cases hlt : j < ws.length
        · obtain ⟨lw, hlw⟩ : ∃ lw, ws[j]? = some lw := ⟨_, List.getElem?_eq_getElem hlt⟩
          have hln : lw.length = n := hL.out.len lw (List.mem_of_getElem? hlw)
          obtain ⟨k1, hk1⟩ : ∃ k1, lw.length = k1 + 1 := ⟨lw.length - 1, by have := hL.out.pos; omega⟩
          have hlne : lw ≠ [] := by intro e; rw [e] at hk1; simp at hk1
          obtain ⟨bb, off, Pw, cw, hP, hcell, hsl⟩ := HW.out.1.at hlw
          subst hP
          obtain ⟨bw, ow, hPw, hend⟩ := hsl.intAt k1 (by omega)
          subst hPw
          have hendv : lw.getD k1 0 = endW lw := by have := endW_get hlne; rw [hk1] at this; simpa using this
          rw [hendv] at hend
          rw [hk1] at hcell
          have hcw := hsl.cap
          have hcw2 := hsl.le
          have cj : (j : Int) < ws.length := by omega
          have d1 : IntKind.i64.wrap ((j : Int) + 1) = (j : Int) + 1 := IntWalk.i64_in _ ⟨by omega, by omega⟩
          have d2 : IntKind.i64.wrap ((k1 : Int) + 1 - 1) = (k1 : Int) := by rw [show (k1 : Int) + 1 - 1 = k1 from by omega]; exact IntWalk.i64_in _ ⟨by omega, by omega⟩
          have hcell2 := hx2.cell hcell
          have HSL := Lib.hid (And.intro hsl (And.intro hlw (And.intro hlne hend)))
          have HM := Lib.hid (And.intro hM hx2)
          clear hM hx2 hsl hlw hlne hendv hcell hend
          go_wp2_with (fail)
          go_loopw [13, 8, 9, 10] (fun i v8 v9 v10 W4 => ∃ (k : Nat) (u8 u9 u10 : Value), u8 = v8 ∧ u9 = v9 ∧ u10 = v10 ∧ k ≤ l.length ∧ i = .int .i64 k ∧ LvM WL W4 WL.heap.size (stR s met (candR l (ws.take j) ++ candK l lw k)) u8 u9 u10 ∧ Ext WL W4) (fun i _ _ _ _ => l.length - (intOf i).toNat)
          case atStart => exact ⟨0, _, _, _, rfl, rfl, rfl, by omega, rfl, by simpa [candK] using HM.out.1, HM.out.2⟩
          case round =>
            obtain ⟨k, v8, v9, v10, hv8, hv9, hv10, hk, rfl, hM4, hx4⟩ := hrel
            subst hv8 hv9 hv10
            by_cases hltk : k < l.length
            · obtain ⟨e, hs⟩ : ∃ e, l[k]? = some e := ⟨_, List.getElem?_eq_getElem hltk⟩
              obtain ⟨be, oe, hPe, g0, g1⟩ := SlE.at2 (HH.out.ext (hx.trans hx4)) k e hs
              subst hPe
              have ck : (k : Int) < l.length := by omega
              have dk : IntKind.i64.wrap ((k : Int) + 1) = (k : Int) + 1 := IntWalk.i64_in _ ⟨by omega, by omega⟩
              have hend4 := hx4.cell HSL.out.2.2.2
              have hst := candK_succ (w := lw) hs
              have hF : StF l s met n (stR s met (candR l (ws.take j) ++ candK l lw k)) := stF (cand_ok hL.out.len (List.mem_of_getElem? HSL.out.2.1))
              have HG := Lib.hid (show ∀ W, Ext wr W → W.cell? ⟨be, oe + k * 2, none⟩ = some (.int .i64 e.1) ∧ W.cell? ⟨be, oe + k * 2 + 1, none⟩ = some (.int .i64 e.2) from fun W hx => ⟨hx.cell g0, hx.cell g1⟩)
              have HM4 := Lib.hid (And.intro hM4 hx4)
              have HF := Lib.hid hF
              clear hM4 hx4 hF hs
              by_cases he : e.1 = endW lw
              · have HST := Lib.hid (show stR s met (candR l (ws.take j) ++ candK l lw (k + 1)) = stepR s met (stR s met (candR l (ws.take j) ++ candK l lw k)) (lw, e.2) from by rw [hst, if_pos he, ← List.append_assoc, stR_snoc])
                generalize stR s met (candR l (ws.take j) ++ candK l lw k) = t at HST HM4 HF
                have e1 : (e.1 != endW lw) = false := by rw [he]; simp
                have e2 : (e.1 == endW lw) = true := by rw [he]; simp
                have HE := Lib.hid he
                clear he hst
                go_wp2_with (fail)
                go_quiet (fail)
                generalize hwq : wr.drewN nq = WQ
                have HXQ := Lib.hid (show Ext wr WQ from hwq ▸ (Ext.refl wr).drewN nq)
                have HXL := Lib.hid (HM4.out.2.trans HXQ.out)
                have HMQ := Lib.hid (HM4.out.1.ext HXQ.out)
                obtain ⟨q0, q1⟩ := HG.out WQ HXQ.out
                clear hwq g0 g1 hend4 e1 e2
                by_cases hs2 : e.2 = s
                · have e3 : (e.2 == s) = true := by rw [hs2]; simp
                  cases hb : t.1 with
                  | none =>
                    have hv : v8 = .slice none 0 0 := by have := HMQ.out.best; rw [hb] at this; exact this
                    subst hv
                    have HN := Lib.hid (show stepR s met t (lw, e.2) = (some lw, t.2) from by unfold stepR; rw [if_pos hs2, hb])
                    have HBT := Lib.hid (HMQ.out.bestTo HSL.out.1)
                    rw [hk1] at HBT
                    clear hb hs2
                    go_wp2_with (fail)
                    go_roundw
                    case rel => exact ⟨k + 1, _, _, _, rfl, rfl, rfl, by omega, by go_num, by rw [HST.out, HN.out]; exact HBT.out, HXL.out⟩
                    case measure => simp [intOf, dk]; omega
                  | some b =>
                    obtain ⟨gb, ob, cb, hv, hsb⟩ : BestV WL (some b) v8 := by rw [← hb]; exact HMQ.out.best
                    subst hv
                    have HBN := Lib.hid (HF.out.best b hb)
                    have hC := rsmaller_any WQ (HSL.out.1.ext HXL.out) (hsb.ext HXL.out) (by rw [HBN.out]; exact hln) (by omega)
                    rw [hk1] at hC
                    have hbl := hsb.le
                    have hbc := hsb.cap
                    cases hq : ltL lw b with
                    | false =>
                      rw [hq] at hC
                      have HN := Lib.hid (show stepR s met t (lw, e.2) = t from by unfold stepR; rw [if_pos hs2, hb]; simp [hq])
                      clear hb hs2 hsb hq
                      go_wp2_with (go_at_call 51; refine hC.mono ?_)
                      rintro e' w2 ⟨rfl, hx2⟩
                      go_wp2_with (fail)
                      go_roundw
                      case rel => exact ⟨k + 1, _, _, _, rfl, rfl, rfl, by omega, by go_num, by rw [HST.out, HN.out]; exact HMQ.out.ext hx2, HXL.out.trans hx2⟩
                      case measure => simp [intOf, dk]; omega
                    | true =>
                      rw [hq] at hC
                      have HN := Lib.hid (show stepR s met t (lw, e.2) = (some lw, t.2) from by unfold stepR; rw [if_pos hs2, hb]; simp [hq])
                      have HBT := Lib.hid (HMQ.out.bestTo HSL.out.1)
                      rw [hk1] at HBT
                      clear hb hs2 hsb hq
                      go_wp2_with (go_at_call 51; refine hC.mono ?_)
                      rintro e' w2 ⟨rfl, hx2⟩
                      go_wp2_with (fail)
                      go_roundw
                      case rel => exact ⟨k + 1, _, _, _, rfl, rfl, rfl, by omega, by go_num, by rw [HST.out, HN.out]; exact HBT.out.ext hx2, HXL.out.trans hx2⟩
                      case measure => simp [intOf, dk]; omega
                · have e3 : (e.2 == s) = false := by simpa using hs2
                  have HS2 := Lib.hid hs2
                  clear hs2
                  go_wp2_with (fail)
                  go_loopw [16, 15] (fun i v15 W6 => ∃ (m : Nat), v15 = .bool (decide (e.2 ∈ met.take m)) ∧ m ≤ met.length ∧ i = .int .i64 m ∧ WQ = W6) (fun i _ _ => met.length - (intOf i).toNat)
                  case atStart => exact ⟨0, by simp, by omega, rfl, rfl⟩
                  case round =>
                    obtain ⟨m, rfl, hm, rfl, hW6⟩ := hrel
                    subst hW6
                    by_cases hltm : m < met.length
                    · obtain ⟨x, hx0⟩ : ∃ x, met[m]? = some x := ⟨_, List.getElem?_eq_getElem hltm⟩
                      obtain ⟨bm, om, hPm, hmc⟩ := (HW.out.2.2.ext HXL.out).intAt m hltm
                      subst hPm
                      rw [List.getD_eq_getElem?_getD, hx0, Option.getD_some] at hmc
                      have cm1 : (m : Int) < met.length := by omega
                      have dm : IntKind.i64.wrap ((m : Int) + 1) = (m : Int) + 1 := IntWalk.i64_in _ ⟨by omega, by omega⟩
                      have HTK := Lib.hid (show met.take (m + 1) = met.take m ++ [x] from by rw [List.take_add_one, hx0, Option.toList_some])
                      clear hx0 hltm
                      by_cases hin : e.2 ∈ met.take m
                      · rw [decide_eq_true hin]
                        have HN := Lib.hid hin
                        clear hin
                        go_wp2_with (fail)
                        go_roundw
                        case rel => exact ⟨m + 1, by rw [HTK.out, decide_eq_true (List.mem_append_left _ HN.out)], by omega, by go_num, trivial⟩
                        case measure => simp [intOf, dm]; omega
                      · rw [decide_eq_false hin]
                        have HN := Lib.hid (show (x == e.2) = decide (e.2 ∈ met.take (m + 1)) from by
                          rw [HTK.out, Bool.eq_iff_iff]
                          simp only [beq_iff_eq, decide_eq_true_eq, List.mem_append, List.mem_singleton, hin, false_or]
                          exact eq_comm)
                        clear hin
                        go_wp2_with (fail)
                        go_roundw
                        case rel => exact ⟨m + 1, by rw [← HN.out], by omega, by go_num, trivial⟩
                        case measure => simp [intOf, dm]; omega
                    · obtain rfl : m = met.length := by omega
                      rw [List.take_length]
                      have cm1 : ¬ (met.length : Int) < met.length := by omega
                      by_cases hin : e.2 ∈ met
                      · rw [decide_eq_true hin]
                        have HN := Lib.hid (show stepR s met t (lw, e.2) = t from by unfold stepR; rw [if_neg HS2.out, if_pos hin])
                        clear hin
                        go_wp2_with (fail)
                        go_roundw
                        case rel => exact ⟨k + 1, _, _, _, rfl, rfl, rfl, by omega, by go_num, by rw [HST.out, HN.out]; exact HMQ.out, HXL.out⟩
                        case measure => simp [intOf, dk]; omega
                      · rw [decide_eq_false hin]
                        have HIN := Lib.hid hin
                        clear hin
                        have hway := HSL.out.1.ext HXL.out
                        go_wp2_with (at_builtin; refine wpList_app_U _ elemI rfl _ _ rfl (base := WQ.heap.size) rfl (OwnG.lit0 (Nat.le_refl _)) (m := lw) (by rw [hk1]; rfl) (hway.ext ((Ext.refl _).alloc _)) ?z1 ?z2 ?z3 ?z4 ?_)
                        case z2 => omega
                        case z3 => omega
                        intro vA wA hoA hgA hbA hobA
                        have hxA : Ext WQ wA := below_ext ((Ext.refl WQ).alloc _) hbA (Nat.le_refl _)
                        have hsA := hxA.size
                        have HOA := Lib.hid hoA
                        clear hgA hobA hbA hoA
                        go_wp2_with (at_builtin; refine wpList_app_U _ elemI rfl _ _ rfl (base := WQ.heap.size) rfl (HOA.out.ext ((Ext.refl _).alloc _)) (m := [e.2]) rfl (SlG.one elemI.hk _ ?c1 ?c2) ?c3 ?c4 ?c5 ?c6 ?_)
                        case c1 => rfl
                        case c2 => rfl
                        case c3 => intro e; cases e
                        case c4 => first | omega | (simp; omega)
                        case c5 => first | omega | (simp; omega)
                        case c6 => first | omega | (simp; omega)
                        intro vB wB hoB hgB hbB hobB
                        have hxB : Ext WQ wB := below_ext (hxA.alloc _) hbB (Nat.le_refl _)
                        have hsB := hxB.size
                        have hnoB := fun g => own_lt (g := g) hoB
                        obtain ⟨way, hwy⟩ : ∃ way, lw ++ [e.2] = way := ⟨_, rfl⟩
                        rw [hwy] at hoB
                        have hwyl : way.length = k1 + 2 := by rw [← hwy, List.length_append, hk1]; rfl
                        have HWY := Lib.hid hwy
                        have HWYL := Lib.hid hwyl
                        obtain ⟨PB, cB, rfl, hslB⟩ := hoB.slG elemI (by omega)
                        have hcB := hslB.le
                        have hcB2 := hslB.cap
                        rw [hwyl]
                        have HNB := Lib.hid (And.intro hslB hnoB)
                        have HXB := Lib.hid hxB
                        clear hwy hoB hgB hbB hobB hnoB hslB hxB hxA hway
                        obtain ⟨rows, r1, r2, r3, r4, r5, r6⟩ := HMQ.out.ex
                        have hrl : rows.length = t.2.1.length := by rw [← r2, List.length_map]
                        have hrl2 : rows.length ≤ l.length := by rw [hrl]; exact HF.out.le
                        obtain ⟨P9, c9, hv9, hs9⟩ := r1.slG elemW (by omega)
                        subst hv9
                        have HWN := Lib.hid (show WaysR WQ P9 c9 t.2.1 from ⟨rows, hs9, r2, r3⟩)
                        have h9l := hs9.le
                        have h9c := hs9.cap
                        have HROW := Lib.hid (And.intro r1 (And.intro r2 (And.intro r3 (And.intro r4 (And.intro r5 r6)))))
                        have HRL := Lib.hid hrl
                        clear r1 r2 r3 r4 r5 r6 hs9 hwyl hrl
                        go_wp2_with (fail)
                        go_loopw [19, 18] (fun i v18 W8 => ∃ (q : Nat), v18 = .int .i64 (havV (havK t.2.1 e.2 q)) ∧ q ≤ rows.length ∧ i = .int .i64 q ∧ Ext wB W8) (fun i _ _ => rows.length - (intOf i).toNat)
                        case atStart => exact ⟨0, rfl, by omega, rfl, Ext.refl _⟩
                        case round =>
                          obtain ⟨q, rfl, hq, rfl, hx8⟩ := hrel
                          by_cases hltq : q < rows.length
                          · obtain ⟨y, hy⟩ : ∃ y, t.2.1[q]? = some y := ⟨_, List.getElem?_eq_getElem (by rw [← HRL.out]; exact hltq)⟩
                            have hyl : y.length = k1 + 2 := by have := HF.out.len y (List.mem_of_getElem? hy); omega
                            obtain ⟨b9, o9, Py, cy, hP9, hyc, hys⟩ := (HWN.out.ext (HXB.out.trans hx8)).at hy
                            subst hP9
                            obtain ⟨b0, o0, hPy, hye⟩ := hys.intAt (k1 + 1) (by omega)
                            subst hPy
                            have hyv : y.getD (k1 + 1) 0 = endW y := by have := endW_get (l := y) (fun e => by rw [e] at hyl; simp at hyl); rw [hyl] at this; simpa using this
                            rw [hyv] at hye
                            rw [hyl] at hyc
                            have hyca := hys.le
                            have hycb := hys.cap
                            rw [hyl] at hyca
                            have cq : (q : Int) < rows.length := by omega
                            have dq : IntKind.i64.wrap ((q : Int) + 1) = (q : Int) + 1 := IntWalk.i64_in _ ⟨by omega, by omega⟩
                            have dq2 : IntKind.i64.wrap ((k1 : Int) + 2 - 1) = (k1 : Int) + 1 := by rw [show (k1 : Int) + 2 - 1 = k1 + 1 from by omega]; exact IntWalk.i64_in _ ⟨by omega, by omega⟩
                            have hks := havK_succ (v := e.2) hy
                            clear hy hyv hys hltq
                            by_cases hend : endW y = e.2
                            · have e4 : (endW y == e.2) = true := by rw [hend]; simp
                              rw [if_pos hend] at hks
                              have HKS := Lib.hid hks
                              clear hend hks hyl
                              go_wp2_with (fail)
                              go_quiet (fail)
                              go_wp2_with (fail)
                              go_roundw
                              case rel => exact ⟨q + 1, by rw [HKS.out]; rfl, by omega, by go_num, hx8.drewN _⟩
                              case measure => simp [intOf, dq]; omega
                            · have e4 : (endW y == e.2) = false := by simpa using hend
                              rw [if_neg hend] at hks
                              have HKS := Lib.hid hks
                              clear hend hks hyl
                              go_wp2_with (fail)
                              go_quiet (fail)
                              go_wp2_with (fail)
                              go_roundw
                              case rel => exact ⟨q + 1, by rw [HKS.out], by omega, by go_num, hx8.drewN _⟩
                              case measure => simp [intOf, dq]; omega
                          · obtain rfl : q = rows.length := by omega
                            have cq : ¬ (rows.length : Int) < rows.length := by omega
                            have HX8 := Lib.hid (HXB.out.trans hx8)
                            have hs8 := hx8.size
                            rw [show havK t.2.1 e.2 rows.length = haveR t.2.1 e.2 from by rw [HRL.out, havK_all]]
                            have hsp := haveR_spec t.2.1 e.2
                            have HST2 := Lib.hid (show stepR s met t (lw, e.2) = match haveR t.2.1 e.2 with
                              | none => (t.1, t.2.1 ++ [way], t.2.2 ++ [e.2])
                              | some i => if ltL way (t.2.1.getD i []) = true then (t.1, t.2.1.set i way, t.2.2) else t from by
                                unfold stepR; rw [if_neg HS2.out, if_neg HIN.out, ← HWY.out]; rfl)
                            cases hh : haveR t.2.1 e.2 with
                            | none =>
                              have HN := Lib.hid (show stepR s met t (lw, e.2) = (t.1, t.2.1 ++ [way], t.2.2 ++ [e.2]) from by rw [HST2.out, hh])
                              rw [show havV none = -1 from rfl]
                              have hfl : t.2.2.length ≤ 1000 := by
                                have h1 := HF.out.fd
                                have h2 := HF.out.le
                                rw [h1, List.length_map]
                                omega
                              have hWLs := (HXL.out.trans HX8.out).size
                              have hXL8 := HXL.out.trans HX8.out
                              have HOff := Lib.hid (show ∀ g, g < WQ.heap.size → Off (fun i => i = g) PB way from fun g hg hne b off e hb => by
                                have h1 := (HNB.out.2 b (by rw [e]; rfl)).1
                                omega)
                              have HO6 := Lib.hid (show Off (fun i => i < WL.heap.size) PB way from fun hne b off e hb => by
                                have h1 := (HNB.out.2 b (by rw [e]; rfl)).1
                                have h2 := HXL.out.size
                                omega)
                              have HX88 := Lib.hid hx8
                              clear hh hsp hx8
                              go_wp2_with (at_builtin; refine wpList_app_U _ elemW rfl _ _ rfl (base := WL.heap.size) rfl ((HROW.out.1.ext HX8.out).ext ((Ext.refl _).alloc _)) (m := [(PB, cB, way)]) rfl (SlG.one elemW.hk _ ?d1 ?d2) ?d3 ?d4 ?d5 ?d6 ?_)
                              case d1 => show _ = [Value.slice PB way.length cB]; rw [HWYL.out]
                              case d2 => rfl
                              case d4 => first | omega | (simp; omega)
                              case d5 => first | omega | (simp; omega)
                              case d6 => first | omega | (simp; omega)
                              intro v9' w9 ho9 hg9 hb9 hob9
                              have hFD : OwnI w9 WL.heap.size v10 t.2.2 := ((HMQ.out.fd.ext HX8.out).ext ((Ext.refl _).alloc _)).kept hg9 (by
                                cases hv : v10.ownBlock with
                                | none => exact .inl rfl
                                | some g => exact .inr (fun e => own_types HROW.out.1 HMQ.out.fd g e.symm hv))
                              have hx9 : Ext WL w9 := below_ext (hXL8.alloc _) hb9 (Nat.le_refl _)
                              have hw9 := hx9.size
                              have HO9 := Lib.hid (And.intro ho9 (And.intro hg9 hob9))
                              clear ho9 hg9 hob9 hb9
                              go_wp2_with (at_builtin; refine wpList_app_U _ elemI rfl _ _ rfl (base := WL.heap.size) rfl (hFD.ext ((Ext.refl _).alloc _)) (m := [e.2]) rfl (SlG.one elemI.hk _ ?f1 ?f2) ?f3 ?f4 ?f5 ?f6 ?_)
                              case f1 => rfl
                              case f2 => rfl
                              case f3 => intro e; cases e
                              case f4 => first | omega | (simp; omega)
                              case f5 => first | omega | (simp; omega)
                              case f6 => first | omega | (simp; omega)
                              intro v10' w10 ho10 hg10 hb10 hob10
                              have HX10 := Lib.hid (below_ext (hx9.alloc _) hb10 (Nat.le_refl _))
                              have HPU := Lib.hid (LvM.push (to := 0) (x := (PB, cB, way)) HMQ.out.best (HROW.out.1.ext HX8.out) HROW.out.2.1 (fun x hx => (HROW.out.2.2.1 x hx).ext HX8.out) HROW.out.2.2.2.1 HROW.out.2.2.2.2.1 HROW.out.2.2.2.2.2 (HMQ.out.fd.ext HX8.out) (HNB.out.1.ext HX88.out) (fun g hg => HOff.out g (own_lt HROW.out.1 hg).2) (fun g hg => HOff.out g (own_lt HMQ.out.fd hg).2) HO6.out _ _ HO9.out.1 HO9.out.2.1 (by rw [World.size_alloc]; exact HO9.out.2.2) ho10 hg10 (by rw [World.size_alloc]; exact hob10))
                              clear ho10 hg10 hob10 hb10 hFD
                              go_wp2_with (fail)
                              go_roundw
                              case rel => exact ⟨k + 1, _, _, _, rfl, rfl, rfl, by omega, by go_num, by rw [HST.out, HN.out]; exact HPU.out, HX10.out⟩
                              case measure => simp [intOf, dk]; omega
                            | some i =>
                              obtain ⟨hi1, hi2⟩ := hsp.2 i hh
                              rw [show havV (some i) = (i : Int) from rfl]
                              obtain ⟨⟨Px, cx, lx⟩, hxi⟩ : ∃ x, rows[i]? = some x := ⟨_, List.getElem?_eq_getElem (by rw [HRL.out]; exact hi1)⟩
                              have hxm := List.mem_of_getElem? hxi
                              have hy : t.2.1[i]? = some lx := by rw [← HROW.out.2.1, List.getElem?_map, hxi]; rfl
                              have hyl : lx.length = k1 + 2 := by have := HF.out.len _ (List.mem_of_getElem? hy); omega
                              have hys : SlI wr Px cx lx := (HROW.out.2.2.1 _ hxm).ext HX8.out
                              have hyg : t.2.1.getD i [] = lx := by rw [List.getD_eq_getElem?_getD, hy, Option.getD_some]
                              have HN := Lib.hid (show stepR s met t (lw, e.2) = if ltL way lx = true then (t.1, t.2.1.set i way, t.2.2) else t from by rw [HST2.out, hh, ← hyg])
                              have hC := rsmaller_any wr (HNB.out.1.ext hx8) hys (by rw [hyl, HWYL.out]) (by rw [HWYL.out]; omega)
                              have hxle := hys.le
                              have hxca := hys.cap
                              rw [HWYL.out, hyl] at hC
                              rw [hyl] at hxle
                              have hown := HROW.out.1.ext HX8.out
                              obtain ⟨g9, hP9, h9b⟩ : ∃ g9, P9 = some ⟨g9, 0, none⟩ ∧ WL.heap.size ≤ g9 := by
                                rcases hown.2 with ⟨h1, h2⟩ | ⟨g, cap', cur, h1, hb, _⟩
                                · injection h1 with h1 h3 h4
                                  rw [HRL.out] at h3
                                  omega
                                · injection h1 with h1
                                  exact ⟨g, h1, hb⟩
                              subst hP9
                              have m0 : wr.cell? ⟨g9, i, none⟩ = some (.slice Px lx.length cx) := hown.cell1 elemW.hk rfl i _ _ hxi rfl
                              rw [hyl] at m0
                              have n0 := hown.frozen rfl i
                              have ci : ¬ ((i : Int) < 0) := by omega
                              have ci2 : i < rows.length := by rw [HRL.out]; exact hi1
                              have HX88 := Lib.hid hx8
                              have HOff := Lib.hid (show ∀ g, g < WQ.heap.size → Off (fun i => i = g) PB way from fun g hg hne b off e hb => by
                                have h1 := (HNB.out.2 b (by rw [e]; rfl)).1
                                omega)
                              have HO6 := Lib.hid (show Off (fun i => i < WL.heap.size) PB way from fun hne b off e hb => by
                                have h1 := (HNB.out.2 b (by rw [e]; rfl)).1
                                have h2 := HXL.out.size
                                omega)
                              have HXI := Lib.hid hxi
                              have HXS := Lib.hid (And.intro h9b (Nat.le_trans HXL.out.size HX8.out.size))
                              cases hq : ltL way lx with
                              | false =>
                                rw [hq] at hC
                                have HN2 := Lib.hid (show stepR s met t (lw, e.2) = t from by rw [HN.out]; simp [hq])
                                clear hh hsp hx8 hi1 hi2 hxi hxm hy hyl hys hyg hq hown h9b
                                go_wp2_with (go_at_call 51; refine hC.mono ?_; rintro e' w2 ⟨rfl, hx2⟩)
                                go_roundw
                                case rel => exact ⟨k + 1, _, _, _, rfl, rfl, rfl, by omega, by go_num, by rw [HST.out, HN2.out]; exact (HMQ.out.ext HX8.out).ext hx2, (HXL.out.trans HX8.out).trans hx2⟩
                                case measure => simp [intOf, dk]; omega
                              | true =>
                                rw [hq] at hC
                                have HN2 := Lib.hid (show stepR s met t (lw, e.2) = (t.1, t.2.1.set i way, t.2.2) from by rw [HN.out]; simp [hq])
                                clear hh hsp hx8 hi1 hi2 hxi hxm hy hyl hys hyg hq
                                go_wp2_with (go_at_call 51; refine hC.mono ?_; rintro e' w2 ⟨rfl, hx2⟩; have m2 := hx2.cell m0; have n2 := (hown.ext hx2).frozen rfl i)
                                have HPU := Lib.hid (LvM.put (x := (PB, cB, way)) HMQ.out.best (hown.ext hx2) rfl HROW.out.2.1 (fun x hx => ((HROW.out.2.2.1 x hx).ext HX8.out).ext hx2) (fun x hx => HROW.out.2.2.2.1 _ rfl x hx) HROW.out.2.2.2.2.1 HROW.out.2.2.2.2.2 ((HMQ.out.fd.ext HX8.out).ext hx2) HXI.out ((HNB.out.1.ext HX88.out).ext hx2) (HOff.out _ (own_lt HROW.out.1 rfl).2) (fun g hg => HOff.out g (own_lt HMQ.out.fd hg).2) HO6.out)
                                have HXE := Lib.hid (((HXL.out.trans HX8.out).trans hx2).setCell h9b (.slice PB (k1 + 2) cB) (p := ⟨g9, i, none⟩))
                                go_roundw
                                case rel => exact ⟨k + 1, _, _, _, rfl, rfl, rfl, by omega, by go_num, by rw [HST.out, HN2.out, ← HWYL.out]; exact HPU.out, HXE.out⟩
                                case measure => simp [intOf, dk]; omega
              · have HST := Lib.hid (show candR l (ws.take j) ++ candK l lw (k + 1) = candR l (ws.take j) ++ candK l lw k from by rw [hst, if_neg he, List.append_nil])
                have e1 : (e.1 != endW lw) = true := by simpa using he
                have e2 : (e.1 == endW lw) = false := by simpa using he
                clear he hst
                go_wp2_with (fail)
                go_quiet (fail)
                go_wp2_with (fail)
                go_roundw
                case rel => exact ⟨k + 1, _, _, _, rfl, rfl, rfl, by omega, by go_num, by rw [HST.out]; exact HM4.out.1.ext ((Ext.refl wr).drewN _), HM4.out.2.drewN _⟩
                case measure => simp [intOf, dk]; omega
            · obtain rfl : k = l.length := by omega
              have HC := Lib.hid (candR_succ (E := l) HSL.out.2.1)
              have HM4 := Lib.hid (And.intro hM4 hx4)
              have ck : ¬ (l.length : Int) < l.length := by omega
              clear hM4 hx4
              go_wp2_with (fail)
              go_roundw
              case rel => exact ⟨j + 1, _, _, _, rfl, rfl, rfl, by omega, by go_num, by rw [HC.out]; exact HM4.out.1, HM4.out.2⟩
              case measure => simp [intOf, d1]; omega
        · obtain rfl : j = ws.length := by omega
          rw [List.take_length] at hM
          have cj : ¬ (ws.length : Int) < ws.length := by omega
          cases hb : (stR s met (candR l ws)).1 with
          | some b =>
            obtain ⟨gb, ob, cb, hv, hsb⟩ : BestV WL (some b) v8 := by rw [← hb]; exact hM.best
            subst hv
            have HC := Lib.hid (hL.out.found HNE.out hb)
            have HSB := Lib.hid (hsb.ext hx2)
            have HXF := Lib.hid (hx.trans hx2)
            clear hM hsb hb hx2
            go_wp2_with (fail)
            go_ret2
            exact ⟨⟨some ⟨gb, ob, none⟩, cb, by rw [HC.out]; rfl, by rw [HC.out]; exact HSB.out⟩, HXF.out⟩
          | none =>
            have hv : v8 = .slice none 0 0 := by have := hM.best; rw [hb] at this; exact this
            subst hv
            obtain ⟨f', hf, hL2⟩ := hL.out.step HNE.out hb
            have hfd := hM.fd
            obtain ⟨rows, r1, r2, r3, r4, r5, r6⟩ := hM.ex
            have hml2 := hL2.ml
            have hwl3 := hL2.wl
            have HL2 := Lib.hid hL2
            generalize stR s met (candR l ws) = t at *
            have hfl : t.2.2.length ≤ 1001 := by rw [List.length_append] at hml2; omega
            obtain ⟨P10, c10, hv10, hs10⟩ := hfd.slG elemI (by omega)
            subst hv10
            have hnn := own_none hfd
            have hrl : rows.length = t.2.1.length := by rw [← r2, List.length_map]
            obtain ⟨P9, c9, hv9, hs9⟩ := r1.slG elemW (by omega)
            subst hv9
            have HR := Lib.hid (And.intro r1 (And.intro r2 (And.intro r3 r6)))
            have HRL := Lib.hid hrl
            have HFD := Lib.hid (And.intro hs10 hnn)
            have HX2 := Lib.hid hx2
            have hMO := HW.out.2.1.ext hx2
            have hgM : ∀ g, (Value.slice Pm met.length cm).ownBlock = some g → g < WL.heap.size := fun g hg => (own_lt HW.out.2.1 hg).2
            have HGM := Lib.hid hgM
            have c10a := hs10.le
            have c10b := hs10.cap
            have hwsz := hx.size
            have hwsz2 := hx2.size
            clear hM hfd r1 r2 r3 r4 r5 r6 hs10 hnn hx2 hs9 hb hL2 hgM hrl hml2
            go_wp2_with (at_builtin; refine wpList_app_U _ elemI rfl _ _ rfl (base := w.heap.size) rfl hMO (m := t.2.2) rfl HFD.out.1 HFD.out.2 ?e1 ?e2 ?e3 ?_)
            case e1 => omega
            case e2 => omega
            case e3 => omega
            intro v' w' ho' hg' hb' hob'
            have HO' := Lib.hid ho'
            have HXF := Lib.hid (below_ext (hx.trans HX2.out) hb' (Nat.le_refl _))
            have HWS := Lib.hid (show WaysR w' P9 c9 t.2.1 from by
              have k1 := HR.out.1.kept hg' (by
                cases hv : (Value.slice P9 rows.length c9).ownBlock with
                | none => exact .inl rfl
                | some g => exact .inr (fun e => by have h1 := HGM.out g e.symm; have h2 := (own_lt HR.out.1 hv).1; omega))
              obtain ⟨P, c, e, hs⟩ := k1.slG elemW (by have := HRL.out; omega)
              injection e with e1 e2 e3
              subst e1 e3
              exact ⟨rows, hs, HR.out.2.1, fun x hx => off_upd (F := fun _ => True) hg' (HR.out.2.2.1 x hx) (fun g hg => (HR.out.2.2.2 x hx).mono (fun i hi => by have := HGM.out g hg; omega))⟩)
            clear ho' hg' hb' hob' hMO
            go_wp2_with (fail)
            go_roundg f'
            case measure => omega
            case rel => exact ⟨n + 1, _, _, _, _, _, rfl, by rw [← HRL.out], HWS.out, HL2, HO'.out, HXF.out⟩
end
end Go.Proofs.YtaciedooeeklpaaDoor
