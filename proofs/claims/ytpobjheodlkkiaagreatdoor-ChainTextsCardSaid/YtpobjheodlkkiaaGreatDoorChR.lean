/- Rings: made of the program. -/
import Derived.Test.YtpobjheodlkkiaaGreatDoorChQ
import Derived.Test.YtpobjheodlkkiaaGreatDoorPtr
import Derived.Test.YtpobjheodlkkiaaGreatDoorMap
namespace Go.Proofs.YtpobjheodlkkiaaGreatDoor
open Go.RowKit Go.Sort Go.Maps
set_option linter.unusedVariables false
set_option maxRecDepth 20000
set_option linter.unusedSimpArgs false
set_option linter.unusedSectionVars false
set_option maxRecDepth 20000
attribute [local go_sem] Oper.semAt_some

theorem zeroP (w : World) : (zeroValue 69).run Tryz.prog w = .ok (.pointer none) w := by kernel_rfl
theorem key_wf {x : Int} (h : keyB x = true) : keyOf Tryz.prog 3 (.int .i64 x) = some (.int .i64 x) := by
  simp [keyB] at h
  exact keyOf_int_mk Tryz.underlying3 (by simp [Lit.wf, IntKind.min, IntKind.max, IntKind.signed, IntKind.bits]; omega)
/-- the pairs that the map holds after the first q keys -/
def pairs (R : List Int) (G : Nat → Nat) (q : Nat) : List (Int × Nat) := (List.range q).map fun i => (nthI R i, G i)
theorem pairs_mem {R : List Int} {G : Nat → Nat} {q i : Nat} (h : i < q) : (nthI R i, G i) ∈ pairs R G q := List.mem_map.2 ⟨i, List.mem_range.2 h, rfl⟩
theorem pairs_succ (R : List Int) (G : Nat → Nat) (q g : Nat) : pairs R (fun i => if i = q then g else G i) (q + 1) = pairs R G q ++ [(nthI R q, g)] := by
  unfold pairs
  rw [List.range_succ, List.map_append]
  simp only [List.map_cons, List.map_nil, if_true]
  congr 1
  apply List.map_congr_left
  intro i hi
  rw [List.mem_range] at hi
  simp [show i ≠ q by omega]
/-- the boxes -/
def Boxes (w : World) (R : List Int) (o : Int) (G : Nat → Nat) (q : Nat) : Prop := ∀ i, i < q → w.heap[G i]? = some (.cells (lkF R o (nthI R i)).cells.toArray 33 (0, 0))
set_option maxHeartbeats 8000000 in
theorem made_any (P : Option Addr) (cap : Nat) (o : Int) (ms : List Int) (w : World) (h : SlI w P cap ms) (hP : P = none → cap = 0) (hr : Right (o :: ms)) :
    Calls Tryz.prog 25 #[.int .i64 o, .slice P ms.length cap] w fun e w' => (∃ v, e = .returned v ∧ OwnL w' w.heap.size v (builtF o ms)) ∧ Ext w w' := by
  have hlen := h.len
  have hl5 := hr.le
  obtain ⟨N, hN⟩ : ∃ N, N = ms.length + 1 := ⟨_, rfl⟩
  have hAl : (o :: ms).length = N := by rw [hN]; rfl
  rw [hAl] at hl5
  have hN1 : ms.length + 1 ≤ N := by omega
  have hN2 : N ≤ ms.length + 1 := by omega
  clear hN
  have hmm := @run_makeMap Tryz.prog
  have HR := Lib.hid hr
  clear hr
  go_enter Tryz.func25, Tryz.ntmps25
  go_wp2_with (first
    | (at_builtin; refine wpList_app_G _ elemI rfl _ _ rfl (base := w.heap.size) rfl (OwnG.lit elemI.hk [o] rfl rfl (Nat.le_refl _) (by simp)) (m := ms) rfl (h.ext ((Ext.refl _).alloc _)) hP ?c3 ?c4 ?c5 ?_))
  all_goals first
    | (simp; omega; done)
    | (simp; done)
    | skip
  intro v5 W1 hv5 hb5
  have hx1 : Ext w W1 := below_ext ((Ext.refl _).alloc _) hb5 (Nat.le_refl _)
  replace hv5 : OwnI W1 w.heap.size v5 (o :: ms) := hv5
  obtain ⟨g5, c5, rfl, hg5, hg5', hs5⟩ := OwnI.some hv5 (by simp) (by simp; omega)
  rw [hAl]
  have hM0 := PtrM.made W1
  have hx0 := (Ext.refl W1).alloc (.map #[] 0)
  have HP1 := Lib.hid hx1.size
  clear hv5 hb5
  go_wp2
  clear hmm
  obtain ⟨b6, hb6⟩ : ∃ b, W1.heap.size = b := ⟨_, rfl⟩
  rw [hb6] at hM0
  try rw [hb6]
  go_loopw [19] (fun i wr => ∃ (q : Nat) (G : Nat → Nat), q ≤ N ∧ i = .int .i64 q ∧ PtrM wr b6 (pairs (o :: ms) G q) ∧ Boxes wr (o :: ms) o G q ∧ Ext W1 wr) (fun i _ => N - (intOf i).toNat)
  case atStart => exact ⟨0, fun _ => 0, by omega, rfl, hM0, fun i hi => by omega, hx0⟩
  case round =>
    obtain ⟨q, G, hk, rfl, hM, hB, hx⟩ := hrel
    by_cases hlt : q < N
    · have hs5w := hs5.ext hx
      obtain ⟨b, off, hPP, k0⟩ := hs5w.intAt q (by rw [hAl]; exact hlt)
      injection hPP with hPP
      injection hPP with hP1 hP2
      subst hP1 hP2
      rw [show (o :: ms).getD q 0 = nthI (o :: ms) q from rfl] at k0
      have m1 : (q + 1) % N < N := Nat.mod_lt _ (by omega)
      have m2 : (q + N - 1) % N < N := Nat.mod_lt _ (by omega)
      obtain ⟨b1, of1, hQ1, k1⟩ := hs5w.intAt _ (show (q + 1) % N < (o :: ms).length from by rw [hAl]; exact m1)
      obtain ⟨b2, of2, hQ2, k2⟩ := hs5w.intAt _ (show (q + N - 1) % N < (o :: ms).length from by rw [hAl]; exact m2)
      injection hQ1 with hQ1
      injection hQ1 with hQ11 hQ12
      subst hQ11 hQ12
      injection hQ2 with hQ2
      injection hQ2 with hQ21 hQ22
      subst hQ21 hQ22
      simp only [Nat.zero_add] at k0 k1 k2
      rw [show (o :: ms).getD ((q + 1) % N) 0 = nthI (o :: ms) ((q + 1) % N) from rfl] at k1
      rw [show (o :: ms).getD ((q + N - 1) % N) 0 = nthI (o :: ms) ((q + N - 1) % N) from rfl] at k2
      have HX := Lib.hid (show lkF (o :: ms) o (nthI (o :: ms) q) = (nthI (o :: ms) q, nthI (o :: ms) ((q + 1) % N), nthI (o :: ms) ((q + N - 1) % N), o) from by
        unfold lkF
        rw [idxI_nodup HR.out.nodup (by rw [hAl]; exact hlt), hAl, Int.toNat_natCast])
      have hkey := key_wf (HR.out.keys _ (nthI_mem (show q < (o :: ms).length from by rw [hAl]; exact hlt)))
      have HNE := Lib.hid (show ∀ z gz, (z, gz) ∈ pairs (o :: ms) G q → z ≠ nthI (o :: ms) q from by
        intro z gz hz e
        obtain ⟨i, hi, e2⟩ := List.mem_map.1 hz
        rw [List.mem_range] at hi
        injection e2 with e3 e4
        have := nodup_inj HR.out.nodup (i := i) (j := q) (by rw [hAl]; omega) (by rw [hAl]; omega) (e3.trans e)
        omega)
      have HPS := fun g => Lib.hid (pairs_succ (o :: ms) G q g)
      have HPL := Lib.hid (show (pairs (o :: ms) G q).length < 9223372036854775807 from by simp [pairs]; omega)
      obtain ⟨kk, hkk⟩ : ∃ kk, nthI (o :: ms) q = kk := ⟨_, rfl⟩
      rw [hkk] at k0 hkey HNE HX HPS
      have HKK := Lib.hid hkk
      clear hkk
      have d1 : IntKind.i64.wrap ((q : Int) + 1) = (q : Int) + 1 := IntWalk.i64_in _ ⟨by omega, by omega⟩
      have e3 : IntKind.i64.wrap ((q : Int) + (N : Int)) = (q : Int) + (N : Int) := IntWalk.i64_in _ ⟨by omega, by omega⟩
      have e4 : IntKind.i64.wrap ((q : Int) + (N : Int) - 1) = (q : Int) + (N : Int) - 1 := IntWalk.i64_in _ ⟨by omega, by omega⟩
      have cq : (q : Int) < N := by omega
      have cm1 : (((q + 1) % N : Nat) : Int) < N := Int.ofNat_lt.2 m1
      have cm2 : (((q + N - 1) % N : Nat) : Int) < N := Int.ofNat_lt.2 m2
      have HMM := Lib.hid hM
      have HBB := Lib.hid hB
      have HQ := Lib.hid hk
      have hsz := hx.size
      have n0 : ((N : Int) == 0) = false := by simp; omega
      have n1 : ¬ ((N : Int) = 0) := by omega
      have n2 : ¬ (N = 0) := by omega
      have HJ := Lib.hid (show ((q + N - 1 : Nat) : Int) = (q : Int) + (N : Int) - 1 by omega)
      have HJ1 := Lib.hid (show (q : Int) + 1 = ((q + 1 : Nat) : Int) by omega)
      have HN0 := Lib.hid (show 0 < N by omega)
      clear hM hB hk
      have e2 : ((q : Int) + 1).tmod (N : Int) = (((q + 1) % N : Nat) : Int) := by rw [HJ1.out]; exact tmod_at HN0.out
      have e5 : ((q : Int) + (N : Int) - 1).tmod (N : Int) = (((q + N - 1) % N : Nat) : Int) := by rw [← HJ.out]; exact tmod_at HN0.out
      generalize (q + 1) % N = p1 at *
      generalize (q + N - 1) % N = p2 at *
      generalize nthI (o :: ms) p1 = nx at *
      generalize nthI (o :: ms) p2 = pr at *
      obtain ⟨w7, hrun7, hM7, hg7⟩ := PtrM.store (w := (wr.alloc (.cells #[.int .i64 kk, .int .i64 nx, .int .i64 pr, .int .i64 o] 33)).drew) (HMM.out.ext (((Ext.refl _).alloc _).drew)) Tryz.underlying68 HPL.out (g := wr.heap.size) HNE.out hkey
      have HM7 := Lib.hid hM7
      have HG7 := Lib.hid hg7
      have HK7 := Lib.hid (And.intro (Upd.cell (g := b6) hg7 ((((Ext.refl wr).alloc _).drew).cell k1) (by show g5 ≠ b6; omega)) (Upd.cell (g := b6) hg7 ((((Ext.refl wr).alloc _).drew).cell k2) (by show g5 ≠ b6; omega)))
      clear hM7 hg7
      go_wp2
      go_region_held3 (fun w' => w'.cell? ⟨g5, p1, none⟩ = some (.int .i64 nx) ∧ w'.cell? ⟨g5, p2, none⟩ = some (.int .i64 pr)) (first | go_keep | exact ⟨k1, k2⟩ | exact HK7.out)
        (fail)
      all_goals
        clear e2 e3 e4 e5 hrun7
        have hx7 : Ext W1 w7 := Below.grown (hx.trans (((Ext.refl _).alloc _).drew)) HG7.out (by simp; omega) (fun j hj => by injection hj with hj; omega)
        have hB7 : Boxes w7 (o :: ms) o (fun i => if i = q then wr.heap.size else G i) (q + 1) := by
          intro i hi
          have hmap := HM7.out.isMap
          by_cases hiq : i = q
          · subst hiq
            simp only [if_true]
            refine grown_heap HG7.out ?_ ?_
            · rw [HKK.out, HX.out]
              exact World.alloc_heap_new _ _
            · intro e
              injection e with e
              have := HMM.out.lt
              omega
          · simp only [if_neg hiq]
            have h0 := HBB.out i (by omega)
            refine grown_heap HG7.out ((((Ext.refl wr).alloc _).drew).heap h0) ?_
            intro e
            injection e with e
            obtain ⟨es, cl, hm⟩ := HMM.out.isMap
            rw [e, h0] at hm
            cases hm
        have HB7 := Lib.hid hB7
        have HX7 := Lib.hid hx7
        clear hB7 hx7
        go_wp2
        go_roundw
        case rel => exact ⟨q + 1, _, by have := HQ.out; omega, by go_num, by rw [(HPS _).out]; exact HM7.out, HB7.out, HX7.out⟩
        case measure => simp [intOf]; omega
    · obtain rfl : N = q := by omega
      have hs5w := hs5.ext hx
      have HSV := sorted_values (some ⟨g5, 0, none⟩) c5 (o :: ms) wr hs5w (by rw [hAl]; omega) _ rfl
      rw [hAl] at HSV
      have hl6 : (sortI (o :: ms)).length = N := by rw [sortI_len, hAl]
      have HV := fun n => values_any (some ⟨g5, 0, none⟩) n c5 wr
      have HM := Lib.hid hM
      have HB := Lib.hid hB
      have hxw := hx1.trans hx
      have HW := Lib.hid hxw
      clear hM hB
      go_wp2_with (first
        | (go_at_call 38; refine (HV _).mono ?_; rintro e w8 ⟨rfl, rfl⟩)
        | (go_at_call 37; refine HSV.mono ?_; rintro e w9 ⟨⟨v9, rfl, hv9⟩, hx9⟩; obtain ⟨g6, c6, rfl, hg6, hg6', hs6⟩ := OwnI.some hv9 (by rw [hl6]; omega) (by rw [hl6]; omega); rw [hl6]))
      have hxa : Ext wr w9 := ((Ext.refl _).alloc _).trans hx9
      have HL6 := Lib.hid hl6
      clear hv9 HSV HV hl6
      go_loopw [54, 9] (fun i v wx => ∃ q : Nat, q ≤ N ∧ i = .int .i64 q ∧ OwnL wx w9.heap.size v ((builtF o ms).take q) ∧ Ext w9 wx) (fun i _ _ => N - (intOf i).toNat)
      case atStart => exact ⟨0, by omega, rfl, OwnG.nil _ _ _ _ _, Ext.refl _⟩
      case round =>
        obtain ⟨q, hk, rfl, hown, hxx⟩ := hrel
        by_cases hlt : q < N
        · have hlt6 : q < (sortI (o :: ms)).length := by rw [HL6.out]; exact hlt
          obtain ⟨b, off, hPP, k0⟩ := (hs6.ext hxx).intAt q hlt6
          injection hPP with hPP
          injection hPP with hP1 hP2
          subst hP1 hP2
          rw [show (sortI (o :: ms)).getD q 0 = nthI (sortI (o :: ms)) q from rfl] at k0
          simp only [Nat.zero_add] at k0
          have hmem : nthI (sortI (o :: ms)) q ∈ o :: ms := sortI_mem.1 (nthI_mem hlt6)
          have HT := Lib.hid (show (builtF o ms).take (q + 1) = (builtF o ms).take q ++ [lkF (o :: ms) o (nthI (sortI (o :: ms)) q)] from by
            have hq : q < (builtF o ms).length := by rw [built_len]; omega
            rw [List.take_add_one, List.getElem?_eq_getElem hq]
            congr 1
            rw [← nthL_get hq, built_at (by omega)]
            rfl)
          have hkey := key_wf (HR.out.keys _ hmem)
          obtain ⟨j, hjl, hj⟩ := List.getElem_of_mem hmem
          rw [← nthI_get hjl] at hj
          have hjN : j < N := by rw [hAl] at hjl; exact hjl
          have hpm := pairs_mem (R := o :: ms) (G := G) hjN
          have hbx := HB.out j hjN
          rw [hj] at hpm hbx
          have hxM := hxa.trans hxx
          have hbx := hxM.heap hbx
          have hlook := (HM.out.ext hxM).look Tryz.underlying68 (zeroP _) hpm hkey
          obtain ⟨X, hX⟩ : ∃ X, lkF (o :: ms) o (nthI (sortI (o :: ms)) q) = X := ⟨_, rfl⟩
          rw [hX] at hbx HT
          generalize nthI (sortI (o :: ms)) q = kk at *
          generalize G j = gj at *
          clear hmem hj hjl hjN hlt6 hpm hX
          obtain ⟨x0, x1, x2, x3⟩ := X
          have l0 : wr.cell? ⟨gj, 0, none⟩ = some (.int .i64 x0) := by unfold World.cell?; simp only [hbx]; rfl
          have l1 : wr.cell? ⟨gj, 1, none⟩ = some (.int .i64 x1) := by unfold World.cell?; simp only [hbx]; rfl
          have l2 : wr.cell? ⟨gj, 2, none⟩ = some (.int .i64 x2) := by unfold World.cell?; simp only [hbx]; rfl
          have l3 : wr.cell? ⟨gj, 3, none⟩ = some (.int .i64 x3) := by unfold World.cell?; simp only [hbx]; rfl
          have cq : (q : Int) < N := by omega
          have d1 : IntKind.i64.wrap ((q : Int) + 1) = (q : Int) + 1 := IntWalk.i64_in _ ⟨by omega, by omega⟩
          have HTL := Lib.hid (show (((builtF o ms).take q).length + 1) * 32 ≤ 140737488355328 ∧ ((builtF o ms).take q).length + 1 ≤ 9223372036854775807 from by rw [List.length_take, built_len]; omega)
          have HO := Lib.hid hown
          have HX := Lib.hid hxx
          have hsz := hxx.size
          clear hown hbx
          go_wp2_with (at_builtin; refine wpList_app_G _ elemL rfl _ _ rfl (base := w9.heap.size) rfl (HO.out.ext ((Ext.refl _).alloc _)) (m := [(x0, x1, x2, x3)]) rfl (SlG.one elemL.hk _ ?d1 ?d2) ?d3 ?d4 ?d5 ?d6 ?_)
          case d1 => rfl
          all_goals first
            | (intro e; cases e; done)
            | (have := HTL.out; simp only [List.length_take] at this; simp; omega; done)
            | (have := HTL.out; simp only [List.length_take] at this; omega; done)
            | exact HTL.out.1
            | exact HTL.out.2
            | (simp; omega; done)
            | rfl
            | skip
          intro v' w3 hown' hbl
          have hx3 : Ext w9 w3 := below_ext (HX.out.alloc _) hbl (Nat.le_refl _)
          go_wp2
          go_roundw
          case rel => exact ⟨q + 1, by omega, by go_num, by rw [HT.out]; exact hown', hx3⟩
          case measure => simp [intOf]; omega
        · obtain rfl : N = q := by omega
          rw [List.take_of_length_le (by rw [built_len]; omega)] at hown
          have hfin := HW.out.trans (hxa.trans hxx)
          have hsz1 := (HW.out.trans hxa).size
          go_wp2
          go_ret
          exact ⟨⟨_, rfl, hown.down hsz1⟩, hfin⟩
end Go.Proofs.YtpobjheodlkkiaaGreatDoor
