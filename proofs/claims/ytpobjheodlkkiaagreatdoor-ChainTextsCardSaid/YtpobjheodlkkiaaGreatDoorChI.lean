/- Rings: Wrong of the reference. -/
import Derived.Test.YtpobjheodlkkiaaGreatDoorChG
import Derived.StillTailTactics
namespace Go.Proofs.YtpobjheodlkkiaaGreatDoor
open Go.RowKit
set_option linter.unusedVariables false
set_option maxRecDepth 20000
set_option linter.unusedSimpArgs false
set_option linter.unusedSectionVars false
set_option maxRecDepth 20000
attribute [local go_sem] Oper.semAt_some

set_option maxHeartbeats 32000000 in
theorem rwrong_any (P : Option Addr) (cap : Nat) (l : List Lk) (w : World) (h : SlL w P cap l) (ok : ∀ x ∈ l, OkK x) :
    Calls Tryz.prog 29 #[.slice P l.length cap] w fun e w' => e = .returned (wrongV (wrongF l)) ∧ Ext w w' := by
  have hlen := h.len
  by_cases h0 : l.length = 0
  · have HB := Lib.hid (wrongF_0 h0)
    have h0' : ((l.length : Int) == 0) = true := by simp [h0]
    rw [HB.out]
    clear h0
    go_enter Tryz.func29, Tryz.ntmps29
    go_wp2
    go_ret3
    exact ⟨rfl, Ext.refl w⟩
  by_cases h5 : 500 < l.length
  · have HB := Lib.hid (wrongF_500 h5)
    have h0' : ((l.length : Int) == 0) = false := beq_eq_false_iff_ne.2 (by omega)
    have h5' : (500 : Int) < l.length := by omega
    rw [HB.out]
    clear h0 h5
    go_enter Tryz.func29, Tryz.ntmps29
    go_wp2
    go_ret3
    exact ⟨rfl, Ext.refl w⟩
  have HN0 := Lib.hid (show 0 < l.length by omega)
  have HN5 := Lib.hid (show l.length ≤ 500 by omega)
  have HOK := Lib.hid ok
  have h0' : ((l.length : Int) == 0) = false := beq_eq_false_iff_ne.2 (by omega)
  have h5' : ¬ (500 : Int) < l.length := by omega
  obtain ⟨b0, off0, hP0, _, _, _, z3⟩ := h.lkAt 0 (by omega)
  subst hP0
  simp only [Nat.zero_mul, Nat.add_zero] at z3
  rw [show (nthL l 0).2.2.2 = own l from rfl] at z3
  have hlt0 : (0 : Int) < l.length := by omega
  clear ok h0 h5
  go_enter Tryz.func29, Tryz.ntmps29
  go_wp2
  go_loopw [5] (fun i wr => ∃ k : Nat, k ≤ l.length ∧ i = .int .i64 k ∧ (∀ j, j < k → good1 l j = true ∧ good4 l j = true) ∧ Ext w wr) (fun i _ => l.length - (intOf i).toNat)
  case atStart => exact ⟨0, by omega, rfl, by intro j hj; omega, Ext.refl w⟩
  case round =>
    obtain ⟨k, hk, rfl, hall, hx⟩ := hrel
    by_cases hlt : k < l.length
    · obtain ⟨b, off, hP, g0, g1, g2, g3⟩ := h.lkAt k hlt
      injection hP with hP
      injection hP with hP1 hP2
      subst hP1 hP2
      have y0 := hx.cell g0
      have y1 := hx.cell g1
      have y2 := hx.cell g2
      have y3 := hx.cell g3
      have yz := hx.cell z3
      have hblt : b0 < wr.heap.size := block_lt y0
      clear g0 g1 g2 g3
      have c1 : (k : Int) < l.length := by omega
      have d1 : IntKind.i64.wrap ((k : Int) + 1) = (k : Int) + 1 := IntWalk.i64_in _ ⟨by omega, by omega⟩
      have hK1 : ∀ W, Calls Tryz.prog 43 #[.int .i64 (nthL l k).1] W fun e w' => e = .returned (.bool (keyB (nthL l k).1)) ∧ W = w' := fun W => (rkey_any _ W).mono fun e w' hh => ⟨hh.1, hh.2.symm⟩
      have hK4 : ∀ W, Calls Tryz.prog 43 #[.int .i64 (nthL l k).2.2.2] W fun e w' => e = .returned (.bool (keyB (nthL l k).2.2.2)) ∧ W = w' := fun W => (rkey_any _ W).mono fun e w' hh => ⟨hh.1, hh.2.symm⟩
      cases hk1 : keyB (nthL l k).1 with
      | false =>
        have HB := Lib.hid (show wrongF l = ((k : Int), 1, 12) from wrongF_1 HN0.out HN5.out hlt hall (good1_no hk1))
        rw [hk1] at hK1
        generalize nthL l k = x at *
        clear hall
        go_wp2
        go_quiet ((go_at_call 43; first | exact quiet_left (hK1 _) | exact quiet_add_left (hK1 _)))
        go_wp2
        go_ret3
        exact ⟨by rw [HB.out]; rfl, hx.drewN _⟩
      | true =>
        rw [hk1] at hK1
        by_cases hk0 : k = 0
        · have h1 : good1 l k = true := by rw [hk0] at hk1 ⊢; exact good1_0 hk1
          have hkp : decide ((0 : Int) < k) = false := decide_eq_false (by omega)
          have hkq : decide (0 < k) = false := decide_eq_false (by omega)
          clear hk1 hk0
          cases hk4 : keyB (nthL l k).2.2.2 with
          | false =>
            have HB := Lib.hid (show wrongF l = ((k : Int), 4, 12) from wrongF_4 HN0.out HN5.out hlt hall h1 (good4_no hk4))
            rw [hk4] at hK4
            generalize nthL l k = x at *
            clear hall
            go_wp2
            go_quiet ((go_at_call 43; first | exact quiet_left (hK1 _) | exact quiet_add_left (hK1 _)))
            go_wp2
            go_quiet ((go_at_call 43; first | exact quiet_add_left (hK4 _) | exact quiet_left (hK4 _)))
            go_wp2
            go_ret3
            exact ⟨by rw [HB.out]; rfl, by first | exact hx.drewN _ | exact (hx.drewN _).drewN _⟩
          | true =>
            rw [hk4] at hK4
            by_cases ho : (nthL l k).2.2.2 = own l
            · have Hy := Lib.hid (show ∀ j, j < k + 1 → good1 l j = true ∧ good4 l j = true from fun j hj => by
                by_cases hjk : j = k
                · subst hjk; exact ⟨h1, good4_eq hk4 ho⟩
                · exact hall j (by omega))
              have ho' : ((nthL l k).2.2.2 != own l) = false := by simpa using ho
              clear ho
              generalize nthL l k = x at *
              clear hall
              go_wp2
              go_quiet ((go_at_call 43; first | exact quiet_left (hK1 _) | exact quiet_add_left (hK1 _)))
              go_wp2
              go_quiet ((go_at_call 43; first | exact quiet_add_left (hK4 _) | exact quiet_left (hK4 _)))
              go_wp2
              go_roundw
              case rel => exact ⟨k + 1, by omega, by go_num, Hy.out, hx.drewN _⟩
              case measure => simp [intOf]; omega
            · have HB := Lib.hid (show wrongF l = ((k : Int), 4, 12) from wrongF_4 HN0.out HN5.out hlt hall h1 (good4_ne ho))
              have ho' : ((nthL l k).2.2.2 != own l) = true := by simpa using ho
              generalize nthL l k = x at *
              clear hall
              go_wp2
              go_quiet ((go_at_call 43; first | exact quiet_left (hK1 _) | exact quiet_add_left (hK1 _)))
              go_wp2
              go_quiet ((go_at_call 43; first | exact quiet_add_left (hK4 _) | exact quiet_left (hK4 _)))
              go_wp2
              go_ret3
              exact ⟨by rw [HB.out]; rfl, by first | exact hx.drewN _ | exact (hx.drewN _).drewN _⟩
        · obtain ⟨b2, off2, hP2, g0, _, _, _⟩ := h.lkAt (k - 1) (by omega)
          injection hP2 with hP2
          injection hP2 with hP3 hP4
          subst hP3 hP4
          have yp := hx.cell g0
          clear g0
          have hkp : (0 : Int) < k := by omega
          have hkq : 0 < k := by omega
          have d2 : IntKind.i64.wrap ((k : Int) - 1) = ((k - 1 : Nat) : Int) := by rw [IntWalk.i64_in _ ⟨by omega, by omega⟩]; omega
          have c3 : ((k - 1 : Nat) : Int) < l.length := by omega
          by_cases hle : (nthL l k).1 ≤ (nthL l (k - 1)).1
          · have HB := Lib.hid (show wrongF l = ((k : Int), 1, 12) from wrongF_1 HN0.out HN5.out hlt hall (good1_le (by omega) hle))
            generalize nthL l (k - 1) = y at *
            clear hk1
            generalize nthL l k = x at *
            clear hall
            go_wp2
            go_quiet ((go_at_call 43; first | exact quiet_left (hK1 _) | exact quiet_add_left (hK1 _)))
            go_wp2
            go_ret3
            exact ⟨by rw [HB.out]; rfl, hx.drewN _⟩
          · have h1 := good1_lt hk1 (by omega)
            have hle' : decide ((nthL l k).1 ≤ (nthL l (k - 1)).1) = false := decide_eq_false hle
            generalize nthL l (k - 1) = y at *
            clear hk1 hle
            cases hk4 : keyB (nthL l k).2.2.2 with
            | false =>
              have HB := Lib.hid (show wrongF l = ((k : Int), 4, 12) from wrongF_4 HN0.out HN5.out hlt hall h1 (good4_no hk4))
              rw [hk4] at hK4
              generalize nthL l k = x at *
              clear hall
              go_wp2
              go_quiet ((go_at_call 43; first | exact quiet_left (hK1 _) | exact quiet_add_left (hK1 _)))
              go_wp2
              go_quiet ((go_at_call 43; first | exact quiet_add_left (hK4 _) | exact quiet_left (hK4 _)))
              go_wp2
              go_ret3
              exact ⟨by rw [HB.out]; rfl, by first | exact hx.drewN _ | exact (hx.drewN _).drewN _⟩
            | true =>
              rw [hk4] at hK4
              by_cases ho : (nthL l k).2.2.2 = own l
              · have Hy := Lib.hid (show ∀ j, j < k + 1 → good1 l j = true ∧ good4 l j = true from fun j hj => by
                  by_cases hjk : j = k
                  · subst hjk; exact ⟨h1, good4_eq hk4 ho⟩
                  · exact hall j (by omega))
                have ho' : ((nthL l k).2.2.2 != own l) = false := by simpa using ho
                clear ho
                generalize nthL l k = x at *
                clear hall
                go_wp2
                go_quiet ((go_at_call 43; first | exact quiet_left (hK1 _) | exact quiet_add_left (hK1 _)))
                go_wp2
                go_quiet ((go_at_call 43; first | exact quiet_add_left (hK4 _) | exact quiet_left (hK4 _)))
                go_wp2
                go_roundw
                case rel => exact ⟨k + 1, by omega, by go_num, Hy.out, hx.drewN _⟩
                case measure => simp [intOf]; omega
              · have HB := Lib.hid (show wrongF l = ((k : Int), 4, 12) from wrongF_4 HN0.out HN5.out hlt hall h1 (good4_ne ho))
                have ho' : ((nthL l k).2.2.2 != own l) = true := by simpa using ho
                generalize nthL l k = x at *
                clear hall
                go_wp2
                go_quiet ((go_at_call 43; first | exact quiet_left (hK1 _) | exact quiet_add_left (hK1 _)))
                go_wp2
                go_quiet ((go_at_call 43; first | exact quiet_add_left (hK4 _) | exact quiet_left (hK4 _)))
                go_wp2
                go_ret3
                exact ⟨by rw [HB.out]; rfl, by first | exact hx.drewN _ | exact (hx.drewN _).drewN _⟩
    · obtain rfl : k = l.length := by omega
      have HRF := Lib.hid (wrongF_rest HN0.out HN5.out hall)
      have HG := Lib.hid (show ∀ i, i < l.length → good1 l i = true from fun i hi => (hall i hi).1)
      clear hall
      have yz := hx.cell z3
      have hF := fun W hx => at_any (some ⟨b0, off0, none⟩) cap l (own l) W (h.ext hx)
      by_cases ho : 0 ≤ idxI (ks l) (own l)
      · have Ho2 := Lib.hid (show (idxI (ks l) (own l)).toNat < l.length ∧ (nthL l (idxI (ks l) (own l)).toNat).1 = own l from by
          have h1 := (idxI_ge (ks l) (own l)).2
          rw [ks_len] at h1
          have h2 : (idxI (ks l) (own l)).toNat < l.length := by omega
          exact ⟨h2, by rw [← ks_at h2]; exact idxI_val _ _ ho⟩)
        have HR := Lib.hid (show wrongF l = ringR l (ringF l l.length [(idxI (ks l) (own l)).toNat]) from by rw [HRF.out, restF, if_neg (by omega)])
        have hoe : idxI (ks l) (own l) = ((idxI (ks l) (own l)).toNat : Int) := by omega
        have HOE := Lib.hid hoe
        rw [hoe] at hF
        clear HRF ho hoe
        generalize hog : (idxI (ks l) (own l)).toNat = o at *
        clear hog
        have hon : ¬ (o : Int) < 0 := by omega
        go_wp2_with (first
          | (go_at_call 44; refine (hF _ hx).mono ?_; rintro e w1 ⟨rfl, rfl⟩)
          | (refine wpList_make_G (cs := fun x : Int => [.int .i64 x]) 0 Tryz.underlying31 int_zero rfl rfl rfl _ _ rfl l.length rfl rfl (by omega) (by omega) ?_; intro w2 hown hx2))
        go_wp2
        have hMw : w1.heap.size < w2.heap.size := (World.ownsRow.lt hown _ rfl).2
        have hb0w : b0 < w1.heap.size := by have := hx.size; have := block_lt z3; simp only at this; omega
        go_loopg [7] l.length (fun k i wr => ∃ (vis : List Nat) (fs : List Int), i = .int .i64 (lastN vis : Int) ∧ Met l o vis ∧ k + vis.length = l.length + 1 ∧ ringF l k vis = ringF l l.length [o] ∧ OwnI wr w1.heap.size (.slice (some ⟨w1.heap.size, 0, none⟩) l.length l.length) fs ∧ fs.length = l.length ∧ (∀ p, p + 1 < vis.length → nthI fs (nthN vis (p + 1)) = (nthL l (nthN vis p)).1) ∧ (∀ j, j < l.length → (j ∉ vis ∨ j = o) → nthI fs j = 0) ∧ Ext w wr ∧ Ext w1 wr)
        case atStart =>
          refine ⟨[o], List.replicate l.length 0, rfl, Met.one Ho2.out.1, by simp, rfl, hown, by simp, by intro p hp; simp at hp, fun j hj _ => ?_, hx.trans hx2, hx2⟩
          simp [nthI, List.getD_eq_getElem?_getD, hj]
        case round =>
          clear hown
          obtain ⟨vis, fs, rfl, hmet, hgk, hring, hown, hml, hfs, hfz, hx3, hx13⟩ := hrel
          have hvl := hmet.le
          have hvp := hmet.pos
          have hil := hmet.last
          obtain ⟨gp, rfl⟩ : ∃ gp, gk = gp + 1 := ⟨gk - 1, by omega⟩
          have HGK := Lib.hid hgk
          have HMET := Lib.hid hmet
          have HIM := Lib.hid (lastN_mem hvp)
          have HRG := Lib.hid hring
          have HFS := Lib.hid hfs
          have HFZ := Lib.hid hfz
          have HML := Lib.hid hml
          obtain ⟨bq, offq, hPq, q0, q1, q2, q3⟩ := h.lkAt (lastN vis) hil
          injection hPq with hPq
          injection hPq with hPq1 hPq2
          subst hPq1 hPq2
          have k0 := hx3.cell q0
          have k1 := hx3.cell q1
          have k2 := hx3.cell q2
          have k3 := hx3.cell q3
          have hne : b0 ≠ w1.heap.size := by omega
          have c1 : ((lastN vis : Nat) : Int) < l.length := by omega
          have hF2 := fun W hx => at_any (some ⟨b0, off0, none⟩) cap l (nthL l (lastN vis)).2.1 W (h.ext hx)
          rw [show idxI (ks l) (nthL l (lastN vis)).2.1 = nxt l (lastN vis) from rfl] at hF2
          have hLP : 0 < vis.length := hvp
          have HLN := Lib.hid (show lastN vis = nthN vis (vis.length - 1) from rfl)
          clear q0 q1 q2 q3 hF
          generalize hlv : lastN vis = i at *
          have HLV := Lib.hid hlv
          clear hfs hfz hml hgk hring hmet hlv
          by_cases hown2 : (nthL l i).2.1 = own l
          · have hR2 := Lib.hid (show wrongF l = endF l vis from by rw [HR.out, ← HRG.out, ringF_end (by rw [HLV.out]; exact hown2)]; rfl)
            have ho1 : ((nthL l i).2.1 != own l) = false := by simpa using hown2
            have HL2 := Lib.hid hown2
            clear hown2
            go_wp2
            have hpo := hvp
            have ho0 : nthN vis 0 = o := HMET.out.first
            have m0 := hown.cell1 elemI.hk HML.out.symm o _ _ (nthI_some (by rw [HML.out]; exact Ho2.out.1)) rfl
            have n0 := hown.frozen HML.out.symm o
            have hset := hown.set1 elemI.hk HML.out.symm o _ (nthL l i).1 _ (nthI_some (by rw [HML.out]; exact Ho2.out.1)) rfl
            have c9 : (o : Int) < l.length := by have := Ho2.out.1; omega
            have hF9 := at_any (some ⟨b0, off0, none⟩) cap l (own l) wr.drew (h.ext hx3.drew)
            rw [HOE.out] at hF9
            have HIN := Lib.hid (show ∀ j, j < l.length → j ∈ vis → nthI (fs.set o (nthL l i).1) j = fromF l vis j ∧ 1 ≤ fromF l vis j from fun j hj hm => by
              obtain ⟨p, hp, e⟩ := List.getElem_of_mem hm
              rw [← nthN_get hp] at e
              have hfr : fromF l vis j = (nthL l (nthN vis ((p + vis.length - 1) % vis.length))).1 := by
                unfold fromF
                rw [← e, idxOf_nth HMET.out.nodup hp]
              have hk1 := of_decide_eq_true (keyB_of (HG.out _ (HMET.out.lt _ (nthN_mem (show (p + vis.length - 1) % vis.length < vis.length from Nat.mod_lt _ hvp)))))
              refine ⟨?_, by rw [hfr]; exact hk1.1⟩
              rw [hfr, nthI_set (by rw [HML.out]; exact Ho2.out.1)]
              cases p with
              | zero =>
                rw [if_pos (by rw [← e, ho0])]
                rw [show (0 + vis.length - 1) % vis.length = vis.length - 1 from by rw [Nat.zero_add]; exact Nat.mod_eq_of_lt (by omega), ← HLN.out]
              | succ p =>
                have hjo : o ≠ j := fun h => by
                  rw [← e, ← ho0] at h
                  have := (List.getElem_inj HMET.out.nodup (h₀ := hvp) (h₁ := hp)).1 (by rw [← nthN_get hvp, ← nthN_get hp]; exact h)
                  omega
                rw [if_neg hjo, ← e, HFS.out p hp, show p + 1 + vis.length - 1 = p + vis.length from by omega, Nat.add_mod_right, Nat.mod_eq_of_lt (by omega)])
            have HOUT := Lib.hid (show ∀ j, j < l.length → j ∉ vis → nthI (fs.set o (nthL l i).1) j = 0 from fun j hj hm => by
              rw [nthI_set (by rw [HML.out]; exact Ho2.out.1), if_neg (fun h => hm (by rw [← h, ← ho0]; exact nthN_mem hvp))]
              exact HFZ.out j hj (.inl hm))
            have HML2 := Lib.hid (show (fs.set o (nthL l i).1).length = l.length by simp [HML.out])
            have HSET := Lib.hid hset
            generalize fs.set o (nthL l i).1 = gs at *
            generalize nthL l i = x at *
            clear hset hown ho0
            go_wp2
            go_still_tail 9, (by kernel_rfl)
            still_call hF9
            repeat still_step
            refine wpStill_nil ?_
            go_wp2
            have hxw : Ext w (wr.setCell ⟨w1.heap.size, o, none⟩ (.int .i64 x.1)).drew := (hx3.setCell (by have := hx.size; simp; omega) _).drew
            have hO2 := HSET.out.ext ((Ext.refl _).drew)
            generalize (wr.setCell ⟨w1.heap.size, o, none⟩ (.int .i64 x.1)).drew = w4 at *
            have HO4 := Lib.hid hO2
            clear hO2 HSET hF2 hF9 m0 n0 k0 k1 k2 k3 ho1
            go_loopw [10] (fun i wr2 => ∃ k : Nat, k ≤ l.length ∧ i = .int .i64 k ∧ (∀ j, j < k → j ∈ vis) ∧ wr2 = w4) (fun i _ => l.length - (intOf i).toNat)
            case atStart => exact ⟨0, by omega, rfl, by intro j hj; omega, rfl⟩
            case round =>
              obtain ⟨k, hk, rfl, hall8, hwr⟩ := hrel
              have hwr := hwr.symm
              subst hwr
              by_cases hlt : k < l.length
              · have ck : (k : Int) < l.length := by omega
                have d1 : IntKind.i64.wrap ((k : Int) + 1) = (k : Int) + 1 := IntWalk.i64_in _ ⟨by omega, by omega⟩
                have hc8 := HO4.out.cell1 elemI.hk HML2.out.symm k _ _ (nthI_some (by rw [HML2.out]; exact hlt)) rfl
                by_cases hm : k ∈ vis
                · have hz : (nthI gs k == 0) = false := by
                    have := HIN.out k hlt hm
                    rw [this.1]
                    exact beq_eq_false_iff_ne.2 (by omega)
                  have Hy := Lib.hid (show ∀ j, j < k + 1 → j ∈ vis from fun j hj => by
                    by_cases hjk : j = k
                    · subst hjk; exact hm
                    · exact hall8 j (by omega))
                  generalize nthI gs k = y at *
                  clear hall8 hm
                  go_wp2
                  go_roundw
                  case rel => exact ⟨k + 1, by omega, by go_num, Hy.out, by trivial⟩
                  case measure => simp [intOf]; omega
                · have HB := Lib.hid (show wrongF l = ((k : Int), 2, 12) from by rw [hR2.out]; exact endF_2 hlt hm hall8)
                  rw [HOUT.out k hlt hm] at hc8
                  clear hall8 hm
                  go_wp2
                  go_ret3
                  exact ⟨by rw [HB.out]; rfl, hxw⟩
              · obtain rfl : k = l.length := by omega
                have HALL := Lib.hid hall8
                clear hall8
                go_wp2
                go_loopw [11] (fun i wr2 => ∃ k : Nat, k ≤ l.length ∧ i = .int .i64 k ∧ (∀ j, j < k → (nthL l j).2.2.1 = fromF l vis j) ∧ Ext w4 wr2) (fun i _ => l.length - (intOf i).toNat)
                case atStart => exact ⟨0, by omega, rfl, by intro j hj; omega, Ext.refl _⟩
                case round =>
                  obtain ⟨k, hk, rfl, hall8, hx8⟩ := hrel
                  by_cases hlt : k < l.length
                  · obtain ⟨bk, offk, hPk, g0, g1, g2, g3⟩ := h.lkAt k hlt
                    injection hPk with hPk
                    injection hPk with hPk1 hPk2
                    subst hPk1 hPk2
                    have hxx := hxw.trans hx8
                    have g2 := hxx.cell g2
                    have ck : (k : Int) < l.length := by omega
                    have d1 : IntKind.i64.wrap ((k : Int) + 1) = (k : Int) + 1 := IntWalk.i64_in _ ⟨by omega, by omega⟩
                    have hc8 := hx8.cell (HO4.out.cell1 elemI.hk HML2.out.symm k _ _ (nthI_some (by rw [HML2.out]; exact hlt)) rfl)
                    rw [(HIN.out k hlt (HALL.out k hlt)).1] at hc8
                    by_cases he : (nthL l k).2.2.1 = fromF l vis k
                    · have Hy := Lib.hid (show ∀ j, j < k + 1 → (nthL l j).2.2.1 = fromF l vis j from fun j hj => by
                        by_cases hjk : j = k
                        · subst hjk; exact he
                        · exact hall8 j (by omega))
                      have he' : ((nthL l k).2.2.1 != fromF l vis k) = false := by simpa using he
                      generalize fromF l vis k = ff at *
                      generalize nthL l k = x at *
                      clear hall8 he g0 g1 g3
                      go_wp2
                      go_quiet (fail)
                      go_wp2
                      go_roundw
                      case rel => exact ⟨k + 1, by omega, by go_num, Hy.out, hx8.drewN _⟩
                      case measure => simp [intOf]; omega
                    · have HB := Lib.hid (show wrongF l = ((k : Int), 3, 12) from by rw [hR2.out]; exact endF_3 HALL.out hlt he hall8)
                      have he' : ((nthL l k).2.2.1 != fromF l vis k) = true := by simpa using he
                      generalize fromF l vis k = ff at *
                      generalize nthL l k = x at *
                      clear hall8 he g0 g1 g3
                      go_wp2
                      go_quiet (fail)
                      go_wp2
                      go_ret3
                      exact ⟨by rw [HB.out]; rfl, hxw.trans (hx8.drewN _)⟩
                  · obtain rfl : k = l.length := by omega
                    have HB := Lib.hid (show wrongF l = (-1, 0, 0) from by rw [hR2.out]; exact endF_0 HALL.out hall8)
                    clear hall8
                    go_wp2
                    go_ret3
                    exact ⟨by rw [HB.out]; rfl, hxw.trans hx8⟩
          · have ho1 : ((nthL l i).2.1 != own l) = true := by simpa using hown2
            by_cases hn0 : 0 ≤ nxt l i
            · obtain ⟨q, hq⟩ : ∃ q : Nat, nxt l i = q := ⟨(nxt l i).toNat, by omega⟩
              have HQ := Lib.hid hq
              have hql := Lib.hid (nxt_key hn0)
              rw [hq] at hF2
              rw [hq, Int.toNat_natCast] at hql
              have hqlt : q < l.length := hql.out.1
              have c2 : (q : Int) < l.length := by omega
              have hq0 : ¬ (q : Int) < 0 := by omega
              have hqo : q ≠ o := fun e => hown2 (by rw [← hql.out.2, e]; exact Ho2.out.2)
              have m0 := hown.cell1 elemI.hk HML.out.symm q _ _ (nthI_some (by rw [HML.out]; exact hqlt)) rfl
              have n0 := hown.frozen HML.out.symm q
              by_cases hmem : q ∈ vis
              · have HB := Lib.hid (show wrongF l = ((i : Int), 2, 12) from by rw [HR.out, ← HRG.out, ringF_bad (by rw [HLV.out]; exact hown2) (by rw [HLV.out, HQ.out]; exact .inr hmem), HLV.out]; rfl)
                have hv : (nthI fs q != 0) = true := by
                  obtain ⟨p, hp, e⟩ := List.getElem_of_mem hmem
                  rw [← nthN_get hp] at e
                  cases p with
                  | zero => rw [HMET.out.first] at e; exact absurd e.symm hqo
                  | succ p =>
                    rw [← e, HFS.out p hp]
                    have := of_decide_eq_true (keyB_of (HG.out _ (HMET.out.lt _ (nthN_mem (show p < vis.length by omega)))))
                    exact bne_iff_ne.2 (by omega)
                generalize nthI fs q = y at *
                clear hown2 hmem hn0 hq hqo
                go_wp2_with (go_at_call 44; refine (hF2 _ hx3).mono ?_; rintro e w3 ⟨rfl, rfl⟩)
                go_ret3
                exact ⟨by rw [HB.out]; rfl, hx3⟩
              · have hR2 := Lib.hid (show ringF l gp (vis ++ [q]) = ringF l l.length [o] from by
                  rw [← HRG.out, ringF_go (by rw [HLV.out]; exact hown2) (by rw [HLV.out, HQ.out]; omega) (by rw [HLV.out, HQ.out]; exact hmem), HLV.out, HQ.out]
                  simp)
                have hM2 := Lib.hid (show Met l o (vis ++ [q]) from by
                  have := HMET.out.more (by rw [HLV.out, HQ.out]; omega) (by rw [HLV.out, HQ.out]; exact hmem)
                  rw [HLV.out, HQ.out] at this
                  exact this)
                rw [HFZ.out q hqlt (.inl hmem)] at m0
                have hset := hown.set1 elemI.hk HML.out.symm q _ (nthL l i).1 _ (nthI_some (by rw [HML.out]; exact hqlt)) rfl
                have HSET := Lib.hid hset
                have HMEM := Lib.hid hmem
                have HQO := Lib.hid hqo
                have HKI := Lib.hid (rfl : (nthL l i).1 = (nthL l i).1)
                obtain ⟨x, hx9⟩ : ∃ x, nthL l i = x := ⟨_, rfl⟩
                have HX9 := Lib.hid hx9
                rw [hx9] at k0 k1 k2 k3 ho1 hF2 HSET
                clear hown2 hmem hn0 hq hqo hset hx9 HKI
                go_wp2_with (go_at_call 44; refine (hF2 _ hx3).mono ?_; rintro e w3 ⟨rfl, rfl⟩)
                go_roundg gp
                case measure => omega
                case rel =>
                  refine ⟨vis ++ [q], fs.set q x.1, by rw [lastN_app], hM2.out, by simp; have := HGK.out; omega, hR2.out, HSET.out, by simp [HML.out], fun p hp => ?_, fun j hj hjv => ?_, hx3.setCell (by have := hx.size; simp; omega) _, hx13.setCell (Nat.le_refl _) _⟩
                  · simp only [List.length_append, List.length_singleton] at hp
                    rw [nthI_set (by rw [HML.out]; exact hqlt)]
                    by_cases hp2 : p + 1 < vis.length
                    · rw [nthN_app hp2, nthN_app (show p < vis.length by omega), if_neg (fun e => HMEM.out (by rw [e]; exact nthN_mem hp2))]
                      exact HFS.out p hp2
                    · rw [show p + 1 = vis.length from by omega, nthN_new, if_pos rfl, nthN_app (show p < vis.length by omega), show p = vis.length - 1 from by omega, ← HLN.out, HX9.out]
                  · rw [nthI_set (by rw [HML.out]; exact hqlt)]
                    have hjq : q ≠ j := fun e => by
                      rcases hjv with h | h
                      · exact h (by rw [← e]; simp)
                      · exact HQO.out (by rw [e, h])
                    rw [if_neg hjq]
                    refine HFZ.out j hj ?_
                    rcases hjv with h | h
                    · exact .inl (fun hm => h (by simp [hm]))
                    · exact .inr h
            · have HB := Lib.hid (show wrongF l = ((i : Int), 2, 12) from by
                rw [HR.out, ← HRG.out, ringF_bad (by rw [HLV.out]; exact hown2) (by rw [HLV.out]; exact .inl (by omega)), HLV.out]
                rfl)
              have hn1 : nxt l i < 0 := by omega
              generalize nxt l i = z at *
              clear hn0 hown2
              go_wp2_with (go_at_call 44; refine (hF2 _ hx3).mono ?_; rintro e w3 ⟨rfl, rfl⟩)
              go_ret3
              exact ⟨by rw [HB.out]; rfl, hx3⟩
      · have HB := Lib.hid (show wrongF l = (0, 4, 12) from by rw [HRF.out, restF, if_pos (by omega)])
        have ho1 : idxI (ks l) (own l) < 0 := by omega
        generalize idxI (ks l) (own l) = z at *
        clear HRF ho
        go_wp2_with (go_at_call 44; refine (hF _ hx).mono ?_; rintro e w1 ⟨rfl, rfl⟩)
        go_ret3
        exact ⟨by rw [HB.out]; rfl, hx⟩
end Go.Proofs.YtpobjheodlkkiaaGreatDoor
