/- Rings: Make of the program; awake. -/
import Derived.Test.YtpobjheodlkkiaaGreatDoorChR
namespace Go.Proofs.YtpobjheodlkkiaaGreatDoor
open Go.RowKit Go.Sort Go.Maps
set_option linter.unusedVariables false
set_option maxRecDepth 20000
set_option linter.unusedSimpArgs false
set_option linter.unusedSectionVars false
set_option maxRecDepth 20000
attribute [local go_sem] Oper.semAt_some

abbrev MetI (w : World) (M : Nat) (l : List Int) : Prop := MetG (fun x => Lit.int .i64 x) Tryz.prog 3 4 w M l
theorem zeroB (w : World) : (zeroValue 4).run Tryz.prog w = .ok (.bool false) w := by kernel_rfl
theorem int_inj : ∀ x y : Int, (fun x => Lit.int .i64 x) x = (fun x => Lit.int .i64 x) y → x = y := fun x y h => by simpa using h
theorem OkI.key {x : Int} (h : OkI x) : keyOf Tryz.prog 3 (.int .i64 x) = some (.int .i64 x) := by
  unfold OkI at h
  exact keyOf_int_mk Tryz.underlying3 (by simp [Lit.wf, IntKind.min, IntKind.max, IntKind.signed, IntKind.bits]; omega)
theorem makeE_bad {o : Int} {ms : List Int} (h : okB (o :: ms) = false) : makeE o ms = 1 ∧ makeL o ms = [] := by
  have h1 : makeE o ms = 1 := by simp [makeE, h]
  exact ⟨h1, by simp [makeL, h1]⟩
/-- how Make ends -/
def MakeP (o : Int) (ms : List Int) (w : World) (e : Ending) (w' : World) : Prop := (∃ v, e = .returned (.tuple #[v, .int .i64 (makeE o ms)]) ∧ ResL w' v (makeL o ms)) ∧ Ext w w'
theorem MakeP.bad {o : Int} {ms : List Int} {w w' : World} {e : Ending} (h : okB (o :: ms) = false) (he : e = .returned (.tuple #[.slice none 0 0, .int .i64 1])) (hx : Ext w w') : MakeP o ms w e w' := by
  obtain ⟨h1, h2⟩ := makeE_bad h
  unfold MakeP
  rw [h1, h2]
  exact ⟨⟨_, he, ResG.nil _ _⟩, hx⟩
set_option maxHeartbeats 8000000 in
theorem make_any (P : Option Addr) (cap : Nat) (o : Int) (ms : List Int) (w : World) (h : SlI w P cap ms) (hP : P = none → cap = 0) (hl5 : ms.length ≤ 99999) (hok : OkI o) :
    Calls Tryz.prog 10 #[.int .i64 o, .slice P ms.length cap] w (MakeP o ms w) := by
  have hlen := h.len
  obtain ⟨N, hN⟩ : ∃ N, N = ms.length + 1 := ⟨_, rfl⟩
  have hAl : (o :: ms).length = N := by rw [hN]; rfl
  have hN1 : ms.length + 1 ≤ N := by omega
  have hN2 : N ≤ ms.length + 1 := by omega
  clear hN
  have hmm := @run_makeMap Tryz.prog
  obtain ⟨w1, hrun1, hM1, hg1⟩ := MetG.store (mk := fun x => Lit.int .i64 x) (e := 4) (MetG.made w) keyedI Tryz.underlying56 Tryz.underlying4 (by simp) int_inj (x := o) (by trivial) hok.key
  have hx1 : Ext w w1 := Below.grown ((Ext.refl w).alloc _) hg1 (by simp) (fun j hj => by injection hj with hj; omega)
  rw [List.nil_append] at hM1
  have HM1 := Lib.hid hM1
  have HG1 := Lib.hid hg1
  clear hM1 hg1
  have hs1 := h.ext hx1
  have hz1 := hx1.size
  go_enter Tryz.func10, Tryz.ntmps10
  go_wp2_with (first
    | (at_builtin; refine wpList_app_G _ elemI rfl _ _ rfl (base := w1.heap.size) rfl (OwnG.lit elemI.hk [o] rfl rfl (Nat.le_refl _) (by simp)) (m := ms) rfl (hs1.ext ((Ext.refl _).alloc _)) hP ?c3 ?c4 ?c5 ?_; rotate_right 1; intro v5 W2 hv5 hb5; obtain ⟨g5, c5, rfl, hg5, hg5', hs5⟩ := OwnI.some (l := o :: ms) hv5 (by simp) (by simp; omega); rw [hAl]))
  all_goals first
    | (simp; omega; done)
    | (simp; done)
    | skip
  have hx2 : Ext w1 W2 := below_ext ((Ext.refl _).alloc _) hb5 (Nat.le_refl _)
  have hx12 := hx1.trans hx2
  have HM2 := Lib.hid (HM1.out.ext hx2)
  clear hv5 hb5 hrun1 hmm
  try go_wp2
  go_loopw [19] (fun i wr => ∃ q : Nat, q ≤ N ∧ i = .int .i64 q ∧ (∀ j, j < q → keyB (nthI (o :: ms) j) = true) ∧ wr = W2) (fun i _ => N - (intOf i).toNat)
  case atStart => exact ⟨0, by omega, rfl, fun j hj => by omega, rfl⟩
  case round =>
    obtain ⟨q, hk, rfl, hall, rfl⟩ := hrel
    by_cases hlt : q < N
    · have hltR : q < (o :: ms).length := by rw [hAl]; exact hlt
      obtain ⟨b, off, hPP, k0⟩ := hs5.intAt q hltR
      injection hPP with hPP
      injection hPP with hP1 hP2
      subst hP1 hP2
      rw [show (o :: ms).getD q 0 = nthI (o :: ms) q from rfl] at k0
      simp only [Nat.zero_add] at k0
      have hK := key_any (nthI (o :: ms) q)
      have c1 : (q : Int) < N := by omega
      have d1 : IntKind.i64.wrap ((q : Int) + 1) = (q : Int) + 1 := IntWalk.i64_in _ ⟨by omega, by omega⟩
      cases hkq : keyB (nthI (o :: ms) q) with
      | false =>
        have Hn := Lib.hid (show okB (o :: ms) = false from by
          cases ho : okB (o :: ms) with
          | false => rfl
          | true => rw [(okB_iff.1 ho).1 _ (nthI_mem hltR)] at hkq; cases hkq)
        rw [hkq] at hK
        generalize nthI (o :: ms) q = x at *
        clear hall hkq
        go_wp2_with (go_at_call 24; refine (hK _).mono ?_; rintro e w4 ⟨rfl, rfl⟩)
        go_ret2
        exact MakeP.bad Hn.out rfl hx12
      | true =>
        have Hy := Lib.hid (show ∀ j : Nat, j < q + 1 → keyB (nthI (o :: ms) j) = true from fun j hj => by
          by_cases hjk : j = q
          · subst hjk; exact hkq
          · exact hall j (by omega))
        rw [hkq] at hK
        generalize nthI (o :: ms) q = x at *
        clear hall hkq
        go_wp2_with (go_at_call 24; refine (hK _).mono ?_; rintro e w4 ⟨rfl, rfl⟩)
        go_roundw
        case rel => exact ⟨q + 1, by omega, by go_num, Hy.out, by trivial⟩
        case measure => simp [intOf]; omega
    · obtain rfl : N = q := by omega
      have HKY := Lib.hid (show ∀ k ∈ o :: ms, keyB k = true from fun k hk => by
        obtain ⟨i, hi, rfl⟩ := List.getElem_of_mem hk
        rw [← nthI_get hi]
        exact hall i (by rw [hAl] at hi; exact hi))
      clear hall
      go_wp2
      go_loopw [29] (fun i wx => ∃ q : Nat, q ≤ ms.length ∧ i = .int .i64 q ∧ MetI wx w.heap.size (o :: ms.take q) ∧ (o :: ms.take q).Nodup ∧ Ext w wx) (fun i _ => ms.length - (intOf i).toNat)
      case atStart => exact ⟨0, by omega, rfl, HM2.out, by simp, hx12⟩
      case round =>
        obtain ⟨q, hk, rfl, hM, hnd, hx⟩ := hrel
        by_cases hlt : q < ms.length
        · obtain ⟨b, off, hPP, k0⟩ := (h.ext hx).intAt q hlt
          subst hPP
          rw [show ms.getD q 0 = nthI ms q from rfl] at k0
          have c1 : (q : Int) < ms.length := by omega
          have d1 : IntKind.i64.wrap ((q : Int) + 1) = (q : Int) + 1 := IntWalk.i64_in _ ⟨by omega, by omega⟩
          have hkey := key_wf (HKY.out _ (List.mem_cons_of_mem _ (nthI_mem hlt)))
          have Hs := Lib.hid (ins_take hlt)
          have HL := Lib.hid (show (o :: ms.take q).length < 9223372036854775807 from by simp; omega)
          by_cases hmx : nthI ms q ∈ o :: ms.take q
          · have Hn := Lib.hid (show okB (o :: ms) = false from by
              cases ho : okB (o :: ms) with
              | false => rfl
              | true =>
                have hn := (okB_iff.1 ho).2
                have h1 := List.take_append_drop (q + 1) ms
                rw [Hs.out] at h1
                rw [← h1, ← List.cons_append, ← List.cons_append, List.nodup_append, List.nodup_append] at hn
                exact absurd rfl (hn.1.2.2 _ hmx _ (by simp)))
            have hlk := MetG.look hM keyedI Tryz.underlying56 Tryz.underlying4 (zeroB wr) hkey
            rw [decide_eq_true hmx] at hlk
            generalize nthI ms q = x at *
            clear hM hnd hmx
            go_wp2
            go_ret2
            exact MakeP.bad Hn.out rfl hx
          · have hlk := MetG.look hM keyedI Tryz.underlying56 Tryz.underlying4 (zeroB wr) hkey
            rw [decide_eq_false hmx] at hlk
            have HND := Lib.hid (show (o :: ms.take (q + 1)).Nodup from by
              rw [Hs.out, ← List.cons_append, List.nodup_append]
              exact ⟨hnd, by simp, fun a ha b hb => by
                simp at hb
                subst hb
                intro e
                subst e
                exact hmx ha⟩)
            have HM := Lib.hid hM
            have HX := Lib.hid hx
            generalize nthI ms q = x at *
            clear hM hnd hmx
            go_wp2_with (at_mapUpdate; refine wpList_store_met rfl _ _ _ 56 rfl HM.out keyedI Tryz.underlying56 Tryz.underlying4 HL.out int_inj rfl _ x rfl rfl trivial hkey ?_; intro w2 hM2 hg2; rw [List.cons_append, ← Hs.out] at hM2)
            go_roundw
            case rel => exact ⟨q + 1, by omega, by go_num, hM2, HND.out, Below.grown HX.out hg2 HX.out.size (fun j hj => by injection hj with hj; omega)⟩
            case measure => simp [intOf]; omega
        · obtain rfl : q = ms.length := by omega
          rw [List.take_length] at hnd
          have ho := okB_iff.2 ⟨HKY.out, hnd⟩
          clear hM hnd
          rcases make_cases o ms with ⟨h1, _⟩ | ⟨_, h5, he, hr⟩ | ⟨_, h5, he, hr, hrr⟩
          · rw [ho] at h1; cases h1
          · have c1 : (500 : Int) ≤ ms.length := by omega
            have c2 : decide (500 ≤ ms.length) = true := by simp; omega
            have HE := Lib.hid he
            have HR := Lib.hid hr
            clear he hr ho
            go_wp2
            go_ret2
            exact ⟨⟨_, by rw [HE.out]; rfl, by rw [HR.out]; exact ResG.nil _ _⟩, hx⟩
          · have c1 : ¬ (500 : Int) ≤ ms.length := by omega
            have c2 : decide (500 ≤ ms.length) = false := by simp; omega
            have hmade := made_any P cap o ms wr (h.ext hx) hP hrr
            have HBL := Lib.hid (built_len o ms)
            have HE := Lib.hid he
            have HR := Lib.hid hr
            clear he hr ho hrr
            go_wp2_with (go_at_call 25; refine hmade.mono ?_; rintro e w3 ⟨⟨v, rfl, ho3⟩, hx3⟩)
            go_ret2
            exact ⟨⟨_, by rw [HE.out]; rfl, by rw [HR.out]; exact ho3.res elemL (by rw [HBL.out]; omega)⟩, hx.trans hx3⟩
end Go.Proofs.YtpobjheodlkkiaaGreatDoor
