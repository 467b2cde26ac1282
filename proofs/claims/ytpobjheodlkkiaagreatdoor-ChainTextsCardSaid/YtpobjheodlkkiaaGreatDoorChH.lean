/- Rings: chain.Wrong. -/
import Derived.Test.YtpobjheodlkkiaaGreatDoorChG
import Derived.WalkMore
namespace Go.Proofs.YtpobjheodlkkiaaGreatDoor
open Go.RowKit
set_option linter.unusedVariables false
set_option maxRecDepth 20000
set_option linter.unusedSimpArgs false
set_option linter.unusedSectionVars false
set_option maxRecDepth 20000
attribute [local go_sem] Oper.semAt_some

set_option maxHeartbeats 32000000 in
theorem wrong_any (P : Option Addr) (cap : Nat) (l : List Lk) (w : World) (h : SlL w P cap l) (ok : ∀ x ∈ l, OkK x) :
    Calls Tryz.prog 26 #[.slice P l.length cap] w fun e w' => e = .returned (wrongV (wrongF l)) ∧ Ext w w' := by
  have hlen := h.len
  by_cases h0 : l.length = 0
  · have HB := Lib.hid (wrongF_0 h0)
    have h0' : ((l.length : Int) == 0) = true := by simp [h0]
    rw [HB.out]
    clear h0
    go_enter Tryz.func26, Tryz.ntmps26
    go_wp2
    go_step3
    go_wp2
    try rw [Exit.noGoto_ret]
    go_ret3
    exact ⟨rfl, Ext.refl w⟩
  by_cases h5 : 500 < l.length
  · have HB := Lib.hid (wrongF_500 h5)
    have h0' : ((l.length : Int) == 0) = false := beq_eq_false_iff_ne.2 (by omega)
    have h5' : (500 : Int) < l.length := by omega
    rw [HB.out]
    clear h0 h5
    go_enter Tryz.func26, Tryz.ntmps26
    go_wp2
    go_step3
    go_wp2
    try rw [Exit.noGoto_ret]
    go_ret3
    exact ⟨rfl, Ext.refl w⟩
  have HN0 := Lib.hid (show 0 < l.length by omega)
  have HN5 := Lib.hid (show l.length ≤ 500 by omega)
  have HOK := Lib.hid ok
  have h0' : ((l.length : Int) == 0) = false := beq_eq_false_iff_ne.2 (by omega)
  have h5' : ¬ (500 : Int) < l.length := by omega
  obtain ⟨b0, off0, hP0, _, _, _, z3⟩ := h.lkAt 0 (by omega)
  subst hP0
  simp only [Nat.zero_mul, Nat.add_zero] at z3
  rw [show (nthL l 0).2.2.2 = own l from rfl] at z3
  have hlt0 : (0 : Int) < l.length := by omega
  clear ok h0 h5
  go_enter Tryz.func26, Tryz.ntmps26
  go_wp2
  go_step3
  go_wp2
  go_loopw [29, 5, 6] (fun i _ _ wr => ∃ k : Nat, k ≤ l.length ∧ i = .int .i64 k ∧ (∀ j, j < k → good1 l j = true ∧ good4 l j = true) ∧ Ext w wr) (fun i _ _ _ => l.length - (intOf i).toNat)
  case atStart => exact ⟨0, by omega, rfl, by intro j hj; omega, Ext.refl w⟩
  case round =>
    obtain ⟨k, hk, rfl, hall, hx⟩ := hrel
    by_cases hlt : k < l.length
    · obtain ⟨b, off, hP, g0, g1, g2, g3⟩ := h.lkAt k hlt
      injection hP with hP
      injection hP with hP1 hP2
      subst hP1 hP2
      have y0 := hx.cell g0
      have y1 := hx.cell g1
      have y2 := hx.cell g2
      have y3 := hx.cell g3
      have yz := hx.cell z3
      have hblt : b0 < wr.heap.size := block_lt y0
      clear g0 g1 g2 g3
      have c1 : (k : Int) < l.length := by omega
      have d1 : IntKind.i64.wrap ((k : Int) + 1) = (k : Int) + 1 := IntWalk.i64_in _ ⟨by omega, by omega⟩
      have hK1 : ∀ W, Calls Tryz.prog 24 #[.int .i64 (nthL l k).1] W fun e w' => e = .returned (.bool (keyB (nthL l k).1)) ∧ W = w' := fun W => (key_any _ W).mono fun e w' hh => ⟨hh.1, hh.2.symm⟩
      have hK4 : ∀ W, Calls Tryz.prog 24 #[.int .i64 (nthL l k).2.2.2] W fun e w' => e = .returned (.bool (keyB (nthL l k).2.2.2)) ∧ W = w' := fun W => (key_any _ W).mono fun e w' hh => ⟨hh.1, hh.2.symm⟩
      cases hk1 : keyB (nthL l k).1 with
      | false =>
        have HB := Lib.hid (show wrongF l = ((k : Int), 1, 12) from wrongF_1 HN0.out HN5.out hlt hall (good1_no hk1))
        rw [hk1] at hK1
        generalize nthL l k = x at *
        clear hall
        go_wp2
        go_quiet ((go_at_call 24; first | exact quiet_left (hK1 _) | exact quiet_add_left (hK1 _)))
        go_wp2
        try rw [Exit.noGoto_ret]
        go_ret3
        exact ⟨by rw [HB.out]; rfl, ((hx.alloc _)).drewN _⟩
      | true =>
        rw [hk1] at hK1
        by_cases hk0 : k = 0
        · have h1 : good1 l k = true := by rw [hk0] at hk1 ⊢; exact good1_0 hk1
          have hkp : decide ((0 : Int) < k) = false := decide_eq_false (by omega)
          have hkq : decide (0 < k) = false := decide_eq_false (by omega)
          clear hk1 hk0
          cases hk4 : keyB (nthL l k).2.2.2 with
          | false =>
            have HB := Lib.hid (show wrongF l = ((k : Int), 4, 12) from wrongF_4 HN0.out HN5.out hlt hall h1 (good4_no hk4))
            rw [hk4] at hK4
            generalize nthL l k = x at *
            clear hall
            go_wp2
            go_quiet ((go_at_call 24; first | exact quiet_left (hK1 _) | exact quiet_add_left (hK1 _)))
            go_wp2
            go_quiet ((go_at_call 24; first | exact quiet_add_left (hK4 _) | exact quiet_left (hK4 _)))
            go_wp2
            try rw [Exit.noGoto_ret]
            go_ret3
            exact ⟨by rw [HB.out]; rfl, ((hx.alloc _).drewN _).drewN _⟩
          | true =>
            rw [hk4] at hK4
            by_cases ho : (nthL l k).2.2.2 = own l
            · have Hy := Lib.hid (show ∀ j, j < k + 1 → good1 l j = true ∧ good4 l j = true from fun j hj => by
                by_cases hjk : j = k
                · subst hjk; exact ⟨h1, good4_eq hk4 ho⟩
                · exact hall j (by omega))
              have ho' : ((nthL l k).2.2.2 != own l) = false := by simpa using ho
              clear ho
              generalize nthL l k = x at *
              clear hall
              go_wp2
              go_quiet ((go_at_call 24; first | exact quiet_left (hK1 _) | exact quiet_add_left (hK1 _)))
              go_wp2
              go_quiet ((go_at_call 24; first | exact quiet_add_left (hK4 _) | exact quiet_left (hK4 _)))
              go_wp2
              go_roundw
              case rel => exact ⟨k + 1, by omega, by go_num, Hy.out, (hx.alloc _).drewN _⟩
              case measure => simp [intOf]; omega
            · have HB := Lib.hid (show wrongF l = ((k : Int), 4, 12) from wrongF_4 HN0.out HN5.out hlt hall h1 (good4_ne ho))
              have ho' : ((nthL l k).2.2.2 != own l) = true := by simpa using ho
              generalize nthL l k = x at *
              clear hall
              go_wp2
              go_quiet ((go_at_call 24; first | exact quiet_left (hK1 _) | exact quiet_add_left (hK1 _)))
              go_wp2
              go_quiet ((go_at_call 24; first | exact quiet_add_left (hK4 _) | exact quiet_left (hK4 _)))
              go_wp2
              try rw [Exit.noGoto_ret]
              go_ret3
              exact ⟨by rw [HB.out]; rfl, ((hx.alloc _).drewN _).drewN _⟩
        · obtain ⟨b2, off2, hP2, g0, _, _, _⟩ := h.lkAt (k - 1) (by omega)
          injection hP2 with hP2
          injection hP2 with hP3 hP4
          subst hP3 hP4
          have yp := hx.cell g0
          clear g0
          have hkp : (0 : Int) < k := by omega
          have hkq : 0 < k := by omega
          have d2 : IntKind.i64.wrap ((k : Int) - 1) = ((k - 1 : Nat) : Int) := by rw [IntWalk.i64_in _ ⟨by omega, by omega⟩]; omega
          have c3 : ((k - 1 : Nat) : Int) < l.length := by omega
          by_cases hle : (nthL l k).1 ≤ (nthL l (k - 1)).1
          · have HB := Lib.hid (show wrongF l = ((k : Int), 1, 12) from wrongF_1 HN0.out HN5.out hlt hall (good1_le (by omega) hle))
            generalize nthL l (k - 1) = y at *
            clear hk1
            generalize nthL l k = x at *
            clear hall
            go_wp2
            go_quiet ((go_at_call 24; first | exact quiet_left (hK1 _) | exact quiet_add_left (hK1 _)))
            go_wp2
            try rw [Exit.noGoto_ret]
            go_ret3
            exact ⟨by rw [HB.out]; rfl, ((hx.alloc _)).drewN _⟩
          · have h1 := good1_lt hk1 (by omega)
            have hle' : decide ((nthL l k).1 ≤ (nthL l (k - 1)).1) = false := decide_eq_false hle
            generalize nthL l (k - 1) = y at *
            clear hk1 hle
            cases hk4 : keyB (nthL l k).2.2.2 with
            | false =>
              have HB := Lib.hid (show wrongF l = ((k : Int), 4, 12) from wrongF_4 HN0.out HN5.out hlt hall h1 (good4_no hk4))
              rw [hk4] at hK4
              generalize nthL l k = x at *
              clear hall
              go_wp2
              go_quiet ((go_at_call 24; first | exact quiet_left (hK1 _) | exact quiet_add_left (hK1 _)))
              go_wp2
              go_quiet ((go_at_call 24; first | exact quiet_add_left (hK4 _) | exact quiet_left (hK4 _)))
              go_wp2
              try rw [Exit.noGoto_ret]
              go_ret3
              exact ⟨by rw [HB.out]; rfl, ((hx.alloc _).drewN _).drewN _⟩
            | true =>
              rw [hk4] at hK4
              by_cases ho : (nthL l k).2.2.2 = own l
              · have Hy := Lib.hid (show ∀ j, j < k + 1 → good1 l j = true ∧ good4 l j = true from fun j hj => by
                  by_cases hjk : j = k
                  · subst hjk; exact ⟨h1, good4_eq hk4 ho⟩
                  · exact hall j (by omega))
                have ho' : ((nthL l k).2.2.2 != own l) = false := by simpa using ho
                clear ho
                generalize nthL l k = x at *
                clear hall
                go_wp2
                go_quiet ((go_at_call 24; first | exact quiet_left (hK1 _) | exact quiet_add_left (hK1 _)))
                go_wp2
                go_quiet ((go_at_call 24; first | exact quiet_add_left (hK4 _) | exact quiet_left (hK4 _)))
                go_wp2
                go_roundw
                case rel => exact ⟨k + 1, by omega, by go_num, Hy.out, (hx.alloc _).drewN _⟩
                case measure => simp [intOf]; omega
              · have HB := Lib.hid (show wrongF l = ((k : Int), 4, 12) from wrongF_4 HN0.out HN5.out hlt hall h1 (good4_ne ho))
                have ho' : ((nthL l k).2.2.2 != own l) = true := by simpa using ho
                generalize nthL l k = x at *
                clear hall
                go_wp2
                go_quiet ((go_at_call 24; first | exact quiet_left (hK1 _) | exact quiet_add_left (hK1 _)))
                go_wp2
                go_quiet ((go_at_call 24; first | exact quiet_add_left (hK4 _) | exact quiet_left (hK4 _)))
                go_wp2
                try rw [Exit.noGoto_ret]
                go_ret3
                exact ⟨by rw [HB.out]; rfl, ((hx.alloc _).drewN _).drewN _⟩
    · obtain rfl : k = l.length := by omega
      have HRF := Lib.hid (wrongF_rest HN0.out HN5.out hall)
      have HG := Lib.hid (show ∀ i, i < l.length → good1 l i = true from fun i hi => (hall i hi).1)
      have HOW := Lib.hid (okK_nth HOK.out 0).2.2.2
      clear hall
      have yz := hx.cell z3
      have hF := fun W hx => find_any (some ⟨b0, off0, none⟩) cap l (own l) W (h.ext hx) (by omega) HG.out HOW.out
      by_cases ho : 0 ≤ idxI (ks l) (own l)
      · have HO := Lib.hid ho
        simp only [decide_eq_true ho] at hF
        have Ho2 := Lib.hid (show (idxI (ks l) (own l)).toNat < l.length ∧ (nthL l (idxI (ks l) (own l)).toNat).1 = own l from by
          have h1 := (idxI_ge (ks l) (own l)).2
          rw [ks_len] at h1
          have h2 : (idxI (ks l) (own l)).toNat < l.length := by omega
          exact ⟨h2, by rw [← ks_at h2]; exact idxI_val _ _ ho⟩)
        have HR := Lib.hid (show wrongF l = ringR l (ringF l l.length [(idxI (ks l) (own l)).toNat]) from by rw [HRF.out, restF, if_neg (by omega)])
        have HOE := Lib.hid (show idxI (ks l) (own l) = ((idxI (ks l) (own l)).toNat : Int) from by omega)
        clear HRF ho
        generalize hog : (idxI (ks l) (own l)).toNat = o at *
        have HOX := Lib.hid hog
        clear hog
        go_wp2_with (first
          | (go_at_call 39; refine (hF _ hx).mono ?_; rintro e w1 ⟨⟨i1, rfl, hi1⟩, hx1⟩; obtain rfl : i1 = o := (hi1 HO.out).trans HOE.out; replace hx1 := hx.trans hx1)
          | (refine wpList_make_G (cs := fun x : Bool => [.bool x]) false Tryz.underlying75 bool_zero rfl rfl rfl _ _ rfl l.length rfl rfl (by omega) (by omega) ?_; intro w2 hown hx2))
        go_wp2
        go_step3
        go_wp2
        have hb0w : b0 < w1.heap.size := by have := hx1.size; have := block_lt z3; simp only at this; omega
        have hMw : w1.heap.size < w2.heap.size := (World.ownsRow.lt hown _ rfl).2
        go_loopg [7] l.length (fun k i wr => ∃ (vis : List Nat) (ms : List Bool), i = .int .i64 (lastN vis : Int) ∧ Met l o vis ∧ k + vis.length = l.length + 1 ∧ ringF l k vis = ringF l l.length [o] ∧ OwnB wr w1.heap.size (.slice (some ⟨w1.heap.size, 0, none⟩) l.length l.length) ms ∧ ms.length = l.length ∧ (∀ j, j < l.length → j ≠ lastN vis → nthB ms j = decide (j ∈ vis)) ∧ Ext w wr ∧ Ext w1 wr)
        case atStart =>
          refine ⟨[o], List.replicate l.length false, rfl, Met.one Ho2.out.1, by simp, rfl, hown, by simp, fun j hj hjo => ?_, hx1.trans hx2, hx2⟩
          have : j ≠ o := hjo
          simp [nthB, List.getD_eq_getElem?_getD, hj, this]
        case round =>
          clear hown
          obtain ⟨vis, ms, rfl, hmet, hgk, hring, hown, hml, hms, hx3, hx13⟩ := hrel
          have hvl := hmet.le
          have hvp := hmet.pos
          have hil := hmet.last
          obtain ⟨gp, rfl⟩ : ∃ gp, gk = gp + 1 := ⟨gk - 1, by omega⟩
          have HGK := Lib.hid hgk
          have HMET := Lib.hid hmet
          have HIM := Lib.hid (lastN_mem hvp)
          have HRG := Lib.hid hring
          have HMS := Lib.hid hms
          have HML := Lib.hid hml
          have m0 := hown.cell1 elemB.hk hml.symm (lastN vis) _ _ (nthB_some (by omega)) rfl
          have n0 := hown.frozen hml.symm (lastN vis)
          have hset := hown.set1 elemB.hk hml.symm (lastN vis) _ true _ (nthB_some (by omega)) rfl
          have HMS2 := Lib.hid (show ∀ j, j < l.length → nthB (ms.set (lastN vis) true) j = decide (j ∈ vis) from fun j hj => by
            rw [nthB_set (by omega)]
            by_cases e : lastN vis = j
            · rw [if_pos e, ← e]; exact (decide_eq_true (lastN_mem hvp)).symm
            · rw [if_neg e]; exact hms j hj (fun h => e h.symm))
          have HML2 := Lib.hid (show (ms.set (lastN vis) true).length = l.length by simp [hml])
          obtain ⟨bq, offq, hPq, q0, q1, q2, q3⟩ := h.lkAt (lastN vis) hil
          injection hPq with hPq
          injection hPq with hPq1 hPq2
          subst hPq1 hPq2
          have hxs : Ext w (wr.setCell ⟨w1.heap.size, lastN vis, none⟩ (.bool true)) := hx3.setCell (by have := hx1.size; simp; omega) _
          have k1 := hxs.cell q1
          have hne : b0 ≠ w1.heap.size := by omega
          have c1 : ((lastN vis : Nat) : Int) < l.length := by omega
          have HNX := Lib.hid (show nxt l (lastN vis) = idxI (ks l) (nthL l (lastN vis)).2.1 from rfl)
          have hF2 := fun W hx => find_any (some ⟨b0, off0, none⟩) cap l (nthL l (lastN vis)).2.1 W (h.ext hx) (by omega) HG.out (okK_nth HOK.out _).2.1
          rw [← HNX.out] at hF2
          have hMs : w1.heap.size < wr.heap.size := block_lt m0
          have hbMs : b0 < w1.heap.size := hb0w
          generalize hlv : lastN vis = i at *
          have HLV := Lib.hid hlv
          clear hms hml hring hmet hlv
          generalize hns : ms.set i true = ns at *
          clear hns
          by_cases hn0 : 0 ≤ nxt l i
          · obtain ⟨q, hq⟩ : ∃ q : Nat, nxt l i = q := ⟨(nxt l i).toNat, by omega⟩
            have HQ := Lib.hid hq
            have hql := Lib.hid (nxt_key hn0)
            simp only [hq] at hF2
            rw [hq, Int.toNat_natCast] at hql
            have hqlt : q < l.length := hql.out.1
            have c2 : (q : Int) < l.length := by omega
            have hcell : ∀ W, Ext (wr.setCell ⟨w1.heap.size, i, none⟩ (.bool true)) W → W.cell? ⟨w1.heap.size, q, none⟩ = some (.bool (decide (q ∈ vis))) := fun W hx => by
              rw [← HMS2.out q hqlt]
              exact (hset.ext hx).cell1 elemB.hk HML2.out.symm q _ _ (nthB_some (by rw [HML2.out]; exact hqlt)) rfl
            have HNK := Lib.hid (show (nthL l q).1 = (nthL l i).2.1 from hql.out.2)
            simp only [show decide ((0 : Int) ≤ (q : Int)) = true from decide_eq_true (by omega), show ((0 : Int) ≤ (q : Int)) = True from by simp, true_implies] at hF2
            by_cases hqo : q = o
            · -- the way ends
              have hown2 : (nthL l i).2.1 = own l := by rw [← HNK.out, hqo]; exact Ho2.out.2
              have hR2 := Lib.hid (show wrongF l = endF l vis from by rw [HR.out, ← HRG.out, ringF_end (by rw [HLV.out]; exact hown2)]; rfl)
              subst hqo
              have hmem : decide (q ∈ vis) = true := decide_eq_true (by
                have := HMET.out.first
                rw [← this]
                exact nthN_mem (by omega))
              simp only [hmem] at hcell
              have HL2 := Lib.hid hown2
              clear hown2 hmem hn0 hq
              go_wp2_with (go_at_call 39; refine (hF2 _ hxs).mono ?_; rintro e w3 ⟨⟨i3, rfl, rfl⟩, hx33⟩; have hc := hcell _ hx33)
              have hb03 : b0 < w3.heap.size := by have := hx33.size; have := hx3.size; have := block_lt z3; simp [World.setCell] at *; omega
              have hx3w : Ext w w3 := hxs.trans hx33
              have s3 := (hset.ext hx33).slG elemB (by rw [HML2.out]; omega)
              obtain ⟨P9, c9, e9, s9⟩ := s3
              rw [HML2.out] at e9
              injection e9 with e91 e92 e93
              subst e91 e93
              clear hF hF2 hcell hc e92 hset
              by_cases hall : ∀ j, j < l.length → nthB ns j = true
              · have hI := indexb_all _ _ l.length ns w3 s9 HML2.out hall
                have HALL := Lib.hid (show ∀ j, j < l.length → j ∈ vis from fun j hj => by
                  have := hall j hj
                  rw [HMS2.out j hj] at this
                  exact of_decide_eq_true this)
                have HFN := Lib.hid (fun i hi => from_nxt HG.out HMET.out Ho2.out.2 (by rw [HLV.out]; exact HL2.out) (HALL.out i hi))
                have HON := Lib.hid (fun i hi => nxt_onto HG.out HMET.out Ho2.out.2 (by rw [HLV.out]; exact HL2.out) (HALL.out i hi))
                clear hall s9
                go_wp2_with (first
                  | (go_at_call 40; refine hI.mono ?_; rintro e w4 ⟨rfl, rfl⟩)
                  | (refine wpList_make_G (cs := fun x : Int => [.int .i64 x]) 0 Tryz.underlying31 int_zero rfl rfl rfl _ _ rfl l.length rfl rfl (by omega) (by omega) ?_; intro w5 hown5 hx5))
                go_wp2
                have hN5 : w4.heap.size < w5.heap.size := (World.ownsRow.lt hown5 _ rfl).2
                go_loopw [127] (fun i wr => ∃ (k : Nat) (ps : List Int), k ≤ l.length ∧ i = .int .i64 k ∧ OwnI wr w4.heap.size (.slice (some ⟨w4.heap.size, 0, none⟩) l.length l.length) ps ∧ ps.length = l.length ∧ (∀ j, j < k → nthI ps (nxt l j).toNat = (nthL l j).1) ∧ Ext w wr ∧ Ext w4 wr) (fun i _ => l.length - (intOf i).toNat)
                case atStart => exact ⟨0, List.replicate l.length 0, by omega, rfl, hown5, by simp, by intro j hj; omega, hx3w.trans hx5, hx5⟩
                case round =>
                  clear hown5
                  obtain ⟨k, ps, hk, rfl, hown6, hps, hpk, hx6, hx46⟩ := hrel
                  by_cases hlt : k < l.length
                  · obtain ⟨bk, offk, hPk, g0, g1, g2, g3⟩ := h.lkAt k hlt
                    injection hPk with hPk
                    injection hPk with hPk1 hPk2
                    subst hPk1 hPk2
                    have g0 := hx6.cell g0
                    have g1 := hx6.cell g1
                    have g2 := hx6.cell g2
                    have g3 := hx6.cell g3
                    have ck : (k : Int) < l.length := by omega
                    have d1 : IntKind.i64.wrap ((k : Int) + 1) = (k : Int) + 1 := IntWalk.i64_in _ ⟨by omega, by omega⟩
                    obtain ⟨f1, f2, f3, f4⟩ := HFN.out k hlt
                    obtain ⟨nx, hnx⟩ : ∃ q : Nat, nxt l k = q := ⟨(nxt l k).toNat, by omega⟩
                    rw [hnx, Int.toNat_natCast] at f2
                    have cn : (nx : Int) < l.length := by omega
                    have hF7 := fun W hx => find_any (some ⟨b0, off0, none⟩) cap l (nthL l k).2.1 W (h.ext hx) (by omega) HG.out (okK_nth HOK.out _).2.1
                    rw [show idxI (ks l) (nthL l k).2.1 = nx from hnx] at hF7
                    simp only [show decide ((0 : Int) ≤ (nx : Int)) = true from decide_eq_true (by omega), show ((0 : Int) ≤ (nx : Int)) = True from by simp, true_implies] at hF7
                    have HNXK := Lib.hid hnx
                    have HPS := Lib.hid hps
                    have Hy := Lib.hid (show ∀ j, j < k + 1 → nthI (ps.set nx (nthL l k).1) (nxt l j).toNat = (nthL l j).1 from fun j hj => by
                      rw [nthI_set (by omega)]
                      by_cases e : nx = (nxt l j).toNat
                      · rw [if_pos e]
                        have a1 := (HFN.out k hlt).2.2.1
                        have a2 := (HFN.out j (by omega)).2.2.1
                        rw [← a1, ← a2, ← e, hnx, Int.toNat_natCast]
                      · rw [if_neg e]
                        refine hpk j ?_
                        by_cases hjk : j = k
                        · subst hjk; rw [hnx, Int.toNat_natCast] at e; exact absurd rfl e
                        · omega)
                    have HO6 := Lib.hid hown6
                    have hcl : ∀ W, Ext wr W → W.cell? ⟨w4.heap.size, nx, none⟩ = some (.int .i64 (nthI ps nx)) ∧ W.frozen? ⟨w4.heap.size, nx, none⟩ = false := fun W hx =>
                      ⟨(hown6.ext hx).cell1 elemI.hk hps.symm nx _ _ (nthI_some (by omega)) rfl, (hown6.ext hx).frozen hps.symm nx⟩
                    have hW : w4.heap.size < wr.heap.size := (World.ownsRow.lt hown6 _ rfl).2
                    have hAl := fun (t : TypeId) => (Ext.refl wr).alloc (.cells #[.int .i64 (nthL l k).1, .int .i64 (nthL l k).2.1, .int .i64 (nthL l k).2.2.1, .int .i64 (nthL l k).2.2.2] t)
                    have hbx : ∀ W t, Ext (wr.alloc (.cells #[.int .i64 (nthL l k).1, .int .i64 (nthL l k).2.1, .int .i64 (nthL l k).2.2.1, .int .i64 (nthL l k).2.2.2] t)) W → W.cell? ⟨wr.heap.size, 0, none⟩ = some (.int .i64 (nthL l k).1) := fun W t hx => hx.cell ((World.cell?_alloc_mark _ _ _ _ 0).trans rfl)
                    generalize nthI ps nx = old at *
                    generalize nthL l k = x at *
                    clear f1 f2 f3 f4 hpk hnx hown6 hps
                    go_wp2_with (go_at_call 39; refine (hF7 _ (hx6.trans (hAl _))).mono ?_; rintro e w7 ⟨⟨i7, rfl, rfl⟩, hx7⟩; obtain ⟨m7, n7⟩ := hcl _ ((hAl _).trans hx7); have b7 := hbx _ _ hx7; have hx77 := (hAl _).trans hx7)
                    go_roundw
                    case rel => exact ⟨k + 1, ps.set nx x.1, by omega, by go_num, (HO6.out.ext hx77).set1 elemI.hk HPS.out.symm nx _ x.1 _ (nthI_some (by have := HPS.out; omega)) rfl, by simp [HPS.out], Hy.out, (hx6.trans hx77).setCell (by have := hx3w.size; simp; omega) _, (hx46.trans hx77).setCell (Nat.le_refl _) _⟩
                    case measure => simp [intOf]; omega
                  · obtain rfl : k = l.length := by omega
                    have HPF := Lib.hid (show ∀ i, i < l.length → nthI ps i = fromF l vis i from fun i hi => by
                      obtain ⟨j, hj, e⟩ := HON.out i hi
                      have hjl := HMET.out.lt j hj
                      have a1 := (HFN.out j hjl).2.2.1
                      have a2 := hpk j hjl
                      rw [e, Int.toNat_natCast] at a1 a2
                      rw [a1, a2])
                    have HPL := Lib.hid hps
                    have s6 := hown6
                    clear hpk hps
                    go_wp2
                    go_loopw [146] (fun i wr2 => ∃ k : Nat, k ≤ l.length ∧ i = .int .i64 k ∧ (∀ j, j < k → (nthL l j).2.2.1 = fromF l vis j) ∧ Ext wr wr2) (fun i _ => l.length - (intOf i).toNat)
                    case atStart => exact ⟨0, by omega, rfl, by intro j hj; omega, Ext.refl wr⟩
                    case round =>
                      rename_i wr2
                      obtain ⟨k, hk, rfl, hall8, hx8⟩ := hrel
                      by_cases hlt : k < l.length
                      · obtain ⟨bk, offk, hPk, g0, g1, g2, g3⟩ := h.lkAt k hlt
                        injection hPk with hPk
                        injection hPk with hPk1 hPk2
                        subst hPk1 hPk2
                        have hxx := hx6.trans hx8
                        have g0 := hxx.cell g0
                        have g1 := hxx.cell g1
                        have g2 := hxx.cell g2
                        have g3 := hxx.cell g3
                        have ck : (k : Int) < l.length := by omega
                        have d1 : IntKind.i64.wrap ((k : Int) + 1) = (k : Int) + 1 := IntWalk.i64_in _ ⟨by omega, by omega⟩
                        have hc8 := hx8.cell (s6.cell1 elemI.hk HPL.out.symm k _ _ (nthI_some (by have := HPL.out; omega)) rfl)
                        rw [HPF.out k hlt] at hc8
                        have hM8 := block_lt hc8
                        simp only at hM8
                        by_cases he : (nthL l k).2.2.1 = fromF l vis k
                        · have Hy := Lib.hid (show ∀ j, j < k + 1 → (nthL l j).2.2.1 = fromF l vis j from fun j hj => by
                            by_cases hjk : j = k
                            · subst hjk; exact he
                            · exact hall8 j (by omega))
                          have he' : ((nthL l k).2.2.1 != fromF l vis k) = false := by simpa using he
                          generalize fromF l vis k = ff at *
                          generalize nthL l k = x at *
                          clear hall8 he
                          go_wp2
                          go_quiet (fail)
                          go_wp2
                          go_roundw
                          case rel => exact ⟨k + 1, by omega, by go_num, Hy.out, (hx8.alloc _).drewN _⟩
                          case measure => simp [intOf]; omega
                        · have HB : wrongF l = ((k : Int), 3, 12) := by rw [hR2.out]; exact endF_3 HALL.out hlt he hall8
                          have HB := Lib.hid HB
                          have he' : ((nthL l k).2.2.1 != fromF l vis k) = true := by simpa using he
                          generalize fromF l vis k = ff at *
                          generalize nthL l k = x at *
                          clear hall8 he
                          go_wp2
                          go_quiet (fail)
                          go_wp2
                          try rw [Exit.noGoto_ret]
                          go_ret3
                          exact ⟨by rw [HB.out]; rfl, hx6.trans ((hx8.alloc _).drewN _)⟩
                      · obtain rfl : k = l.length := by omega
                        have HB := Lib.hid (show wrongF l = (-1, 0, 0) from by rw [hR2.out]; exact endF_0 HALL.out hall8)
                        clear hall8
                        go_wp2
                        try rw [Exit.noGoto_ret]
                        go_ret3
                        exact ⟨by rw [HB.out]; rfl, hx6.trans hx8⟩
              · have hI := indexb_no _ _ l.length ns w3 s9 HML2.out hall
                clear hall s9
                go_wp2_with (go_at_call 40; refine hI.mono ?_; rintro e w4 ⟨⟨k4, rfl, hk4, hkf, hkb⟩, rfl⟩)
                have HB : wrongF l = ((k4 : Int), 2, 12) := by
                  rw [hR2.out]
                  refine endF_2 hk4 (fun hm => ?_) (fun j hj => ?_)
                  · rw [HMS2.out k4 hk4, decide_eq_true hm] at hkf; cases hkf
                  · have := hkb j hj
                    rw [HMS2.out j (by omega)] at this
                    exact of_decide_eq_true this
                try rw [Exit.noGoto_ret]
                go_ret3
                exact ⟨by rw [HB]; rfl, hx3w⟩
            · have hqo' : ((q : Int) == o) = false := beq_eq_false_iff_ne.2 (by omega)
              have hqo2 : ((q : Int) != o) = true := bne_iff_ne.2 (by omega)
              have hown2 : (nthL l i).2.1 ≠ own l := fun e => hqo (by
                rw [← HNK.out, ← Ho2.out.2] at e
                exact key_inj HG.out hqlt Ho2.out.1 e)
              by_cases hmem : q ∈ vis
              · have HB := Lib.hid (show wrongF l = ((i : Int), 2, 12) from by rw [HR.out, ← HRG.out, ringF_bad (by rw [HLV.out]; exact hown2) (by rw [HLV.out, HQ.out]; exact .inr hmem), HLV.out]; rfl)
                simp only [decide_eq_true hmem] at hcell
                clear hown2 hmem hn0 hq hqo
                go_wp2_with (go_at_call 39; refine (hF2 _ hxs).mono ?_; rintro e w3 ⟨⟨i3, rfl, rfl⟩, hx33⟩; have hc := hcell _ hx33)
                try rw [Exit.noGoto_ret]
                go_ret3
                exact ⟨by rw [HB.out]; rfl, hxs.trans hx33⟩
              · have hR2 := Lib.hid (show ringF l gp (vis ++ [q]) = ringF l l.length [o] from by
                  rw [← HRG.out, ringF_go (by rw [HLV.out]; exact hown2) (by rw [HLV.out, HQ.out]; omega) (by rw [HLV.out, HQ.out]; exact hmem), HLV.out, HQ.out]
                  simp)
                have hM2 := Lib.hid (show Met l o (vis ++ [q]) from by
                  have := HMET.out.more (by rw [HLV.out, HQ.out]; omega) (by rw [HLV.out, HQ.out]; exact hmem)
                  rw [HLV.out, HQ.out] at this
                  exact this)
                have HSET := Lib.hid hset
                simp only [decide_eq_false hmem] at hcell
                clear hown2 hmem hn0 hq hqo hset
                go_wp2_with (go_at_call 39; refine (hF2 _ hxs).mono ?_; rintro e w3 ⟨⟨i3, rfl, rfl⟩, hx33⟩; have hc := hcell _ hx33)
                go_roundg gp
                case measure => omega
                case rel =>
                  refine ⟨vis ++ [q], ns, by rw [lastN_app], hM2.out, by simp; have := HGK.out; omega, hR2.out, HSET.out.ext hx33, HML2.out, fun j hj hjq => ?_, hxs.trans hx33, (hx13.setCell (Nat.le_refl _) _).trans hx33⟩
                  rw [lastN_app] at hjq
                  rw [HMS2.out j hj]
                  simp [hjq]
          · have HB := Lib.hid (show wrongF l = ((i : Int), 2, 12) from by
              have hown2 : (nthL l i).2.1 ≠ own l := fun e => hn0 (by
                rw [HNX.out, e, HOE.out]; omega)
              rw [HR.out, ← HRG.out, ringF_bad (by rw [HLV.out]; exact hown2) (by rw [HLV.out]; exact .inl (by omega)), HLV.out]
              rfl)
            simp only [decide_eq_false hn0] at hF2
            clear hn0
            go_wp2_with (go_at_call 39; refine (hF2 _ hxs).mono ?_; rintro e w3 ⟨⟨i3, rfl, hi3⟩, hx33⟩; clear hi3)
            try rw [Exit.noGoto_ret]
            go_ret3
            exact ⟨by rw [HB.out]; rfl, hxs.trans hx33⟩
      · have HB := Lib.hid (show wrongF l = (0, 4, 12) from by rw [HRF.out, restF, if_pos (by omega)])
        simp only [decide_eq_false ho] at hF
        clear HRF ho
        go_wp2_with (go_at_call 39; refine (hF _ hx).mono ?_; rintro e w1 ⟨⟨i1, rfl, _⟩, hx1⟩)
        try rw [Exit.noGoto_ret]
        go_ret3
        exact ⟨by rw [HB.out]; rfl, hx.trans hx1⟩
end Go.Proofs.YtpobjheodlkkiaaGreatDoor
