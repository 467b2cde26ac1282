/- Areas: the law SpaceDamage. -/
import Derived.Test.YtnileonlabpbpaaGreatQSpAT
namespace Go.Proofs.YtnileonlabpbpaaGreat
open Go.RowKit
set_option linter.unusedVariables false
set_option linter.unusedSimpArgs false
set_option linter.unusedSectionVars false
set_option maxRecDepth 20000

set_option maxHeartbeats 8000000 in
theorem spaceDamage_any (size pages : Int) (PL : Option Addr) (capL : Nat) (L : List AcS) (at_ by_ : Int) (w : World) (hsz : inI size) (hpg : inI pages) (hL : SlG csAc w PL capL L) (hok : ∀ x ∈ L, AcOk x) (ha : inI at_) (hb_ : inI by_) :
    Calls Tryz.prog 7 #[.int .i64 size, .int .i64 pages, .slice PL L.length capL, .int .i64 at_, .int .i64 by_] w fun e w' => e = .returned (.bool true) ∧ Ext w w' := by
  have hA := acts_any size pages PL capL L _ hL
  go_enter Tryz.func7, Tryz.ntmps7
  go_wp2_with (fail)
  refine hA.mono ?_
  rintro e w1 ⟨⟨b, rfl, hb⟩, hx1⟩
  cases b
  · go_wp2_with (go_at_call 9; refine (sawake_any _).mono ?_; rintro e w3 ⟨rfl, hx3⟩)
    go_ret
    exact ⟨rfl, hx1.trans hx3⟩
  · have hP := play_any size pages PL capL L w1 hsz hpg (hL.ext hx1) hok (by have h40 : L.length ≤ 40 := by simpa using hb
                                                                             omega)
    go_wp2_with (fail)
    refine hP.mono ?_
    rintro e w3 ⟨pp, PR, nR, cR, sz, ok, rfl, hx3, hpost⟩
    cases ok
    · clear hpost
      have hXc := FCell.new 30 w3 (.pointer pp) (.int .i64 sz) (.slice PR nR cR) (.bool true) (.bool false)
      have r3 := hXc.cells.2.2.2.1
      have r4 := hXc.cells.2.2.2.2
      have hx4 := (Ext.refl w3).alloc (.cells #[.pointer pp, .int .i64 sz, .slice PR nR cR, .bool true, .bool false] 30)
      go_wp2_with (go_at_call 9; refine (sawake_any _).mono ?_; rintro e w5 ⟨rfl, hx5⟩)
      go_ret
      exact ⟨rfl, ((hx1.trans hx3).trans hx4).trans hx5⟩
    · obtain ⟨X0, A, g, z, cap, l, lv, rfl, rfl, rfl, hMd⟩ := hpost rfl
      have hx4 := (Ext.refl w3).alloc (.cells #[.pointer (some ⟨A, 0, none⟩), .int .i64 z, .slice PR l.length cR, .bool true, .bool true] 30)
      have hX4 := FCell.new 30 w3 (.pointer (some ⟨A, 0, none⟩)) (.int .i64 z) (.slice PR l.length cR) (.bool true) (.bool true)
      have hM4 := hMd.box (.cells #[.pointer (some ⟨A, 0, none⟩), .int .i64 z, .slice PR l.length cR, .bool true, .bool true] 30)
      have hw4 := (hx1.trans hx3).trans hx4
      have hg := hM4.rs.goodL
      have r0 := hX4.cells.1
      have r3 := hX4.cells.2.2.2.1
      have r4 := hX4.cells.2.2.2.2
      have hI := simage_any A g z cap l lv _ hM4.sp
      have hsm : (imgB z l).size ≤ 140737488355328 := Nat.le_trans (imgB_le hg) (by omega)
      have hI8 : 8 ≤ (imgB z l).size := by rw [imgB_size hg.sizes]; omega
      have HD := Lib.hid (fun k y hk hy hs r e size' l' hr => damaged (size' := size') (l' := l') hg k y hk hy (hs := hs) (r := r) e hr)
      have hI9 := imgB_le hg
      generalize hW4 : w3.alloc (.cells #[.pointer (some ⟨A, 0, none⟩), .int .i64 z, .slice PR l.length cR, .bool true, .bool true] 30) = w4 at *
      generalize hX : w3.heap.size = X at *
      generalize imgB z l = P at *
      have hne : P.toList.isEmpty = false := by
        have : ¬ P.toList = [] := fun h => by rw [toList_nil] at h; omega
        simpa using this
      go_wp2_with (go_at_call 29; refine hI.mono ?_; rintro e w5 ⟨rfl, hx5⟩)
      have hX5 := hX4.ext hx5
      have hM5 := hM4.ext hx5
      have hw5 := hw4.trans hx5
      have hk : ∃ k : Nat, wrap64 ((IntKind.u64.wrap at_).tmod P.size) = k ∧ (k : Int) < P.size := by
        have u0 : 0 ≤ IntKind.u64.wrap at_ := u64_ge at_
        have u1 := Int.tmod_nonneg (P.size : Int) u0
        have u2 := Int.tmod_lt_of_pos (IntKind.u64.wrap at_) (show (0 : Int) < P.size by omega)
        refine ⟨((IntKind.u64.wrap at_).tmod P.size).toNat, ?_, by omega⟩
        rw [IntWalk.wrap64_in _ ⟨by omega, by omega⟩]
        omega
      have hc : ∃ c : Nat, IntKind.u64.wrap (1 + (IntKind.u64.wrap by_).tmod 255) % 256 = c ∧ 1 ≤ c ∧ c ≤ 255 := by
        have u0 : 0 ≤ IntKind.u64.wrap by_ := u64_ge by_
        have u1 := Int.tmod_nonneg 255 u0
        have u2 := Int.tmod_lt_of_pos (IntKind.u64.wrap by_) (show (0 : Int) < 255 by omega)
        refine ⟨(1 + (IntKind.u64.wrap by_).tmod 255).toNat, ?_, by omega, by omega⟩
        rw [IntWalk.u64_in _ ⟨by omega, by omega⟩]
        omega
      obtain ⟨k, hk1, hk2⟩ := hk
      obtain ⟨c, hc1, hc2, hc3⟩ := hc
      rw [hk1, hc1]
      have hkp : k < P.size := by omega
      have hki : (k : Int) < P.size := by omega
      have hw1 : IntKind.i64.wrap ((k : Int) + 1) = k + 1 := IntWalk.i64_in _ ⟨by omega, by omega⟩
      have q1 : (0 : Int) ≤ k := by omega
      have q2 : (k : Int) ≤ P.size := by omega
      have q3 : (0 : Int) ≤ (k : Int) + 1 := by omega
      have q4 : (k : Int) + 1 ≤ P.size := by omega
      have q5 : ((k : Int) + 1).toNat = k + 1 := by omega
      clear hk1 hc1
      obtain ⟨y, hy1, hy2⟩ := xor_byte (P[k]'hkp) c hc2 hc3
      have hy3 : y.toNat ≠ bt P k := by rw [← get_bt P k hkp]; exact hy2
      have hcv : ∀ W : World, (convert 62 9 (.slice (some ⟨W.heap.size, 0, none⟩) 1 1)).run Tryz.prog (W.alloc (.cells #[.int .u8 y.toNat] 5)).drew = .ok (.string ⟨#[y]⟩) (W.alloc (.cells #[.int .u8 y.toNat] 5)).drew := fun W =>
        run_convert_bytes_back (P := Tryz.prog) _ 62 9 5 ⟨W.heap.size, 0, none⟩ 1 [y] Tryz.underlying62 Tryz.underlying5 Tryz.underlying9 (fun j hj => by
          obtain rfl : j = 0 := by simpa using hj
          simp [Addr.add])
      have HY := Lib.hid hy3
      have hqs := withByte_size P k y hkp
      have hqm : (withByte P k y).size ≤ 140737488355328 := by omega
      have hL1 := load_any (withByte P k y) hqm
      have hL2 := rload_any (withByte P k y) hqm
      have hcode := loadF_code (withByte P k y) hqm
      have HDm := Lib.hid (fun (r : LdR) (e : loadF (withByte P k y) hqm = r) size' l' hr => HD.out k y hkp hy3 hqm r e size' l' hr)
      clear HD hy2 hy3
      obtain ⟨r, hr⟩ : ∃ r, loadF (withByte P k y) hqm = r := ⟨_, rfl⟩
      rw [hr] at hL1 hL2 hcode
      have HDr := Lib.hid (HDm.out r hr)
      clear HDm hr
      have hlim : ¬ 9223372036854775807 < min k P.size + 1 := by omega
      have hlim2 : ¬ 9223372036854775807 < min k P.size + 1 + (P.size - (k + 1)) := by omega
      go_region_law (fail)
      all_goals (
        go_wp2_with (fail)
        have hq : P.extract 0 k ++ ⟨#[y]⟩ ++ P.extract (k + 1) P.size = withByte P k y := rfl
        rw [hq]
        clear hq hlim hlim2 hcv hqs hI
        have hx6 := ((Ext.refl w5).alloc (.cells #[.int .u8 y.toNat] 5)).drew
        have hX6 := hX5.ext hx6
        have hM6 := hM5.ext hx6
        have hw6 := hw5.trans hx6
        generalize withByte P k y = Q at *
        generalize (w5.alloc (.cells #[.int .u8 y.toNat] 5)).drew = w6 at *
        obtain ⟨a, e, o⟩ := r
        cases o with
        | none =>
          have hc : e ≠ 0 := by rcases hcode with h | h; exact h.2; exact absurd rfl h.1
          have d2 : (e == 0) = false := by simpa using hc
          have d3 : (e != 0) = true := by simpa using hc
          clear hcode hc HDr
          refine (hL1 _).mono ?_
          rintro e w7 ⟨ptr, rfl, hx7, rfl⟩
          go_wp2_with (fail)
          refine (hL2 _).mono ?_
          rintro e w8 ⟨v, rfl, hx8, rfl⟩
          go_wp2_with (go_at_call 9; refine (sawake_any _).mono ?_; rintro e w9 ⟨rfl, hx9⟩)
          go_ret
          exact ⟨rfl, ((hw6.trans (hx7.trans hx8)).alloc _).trans hx9⟩
        | some x =>
          obtain ⟨size', l'⟩ := x
          have hc : e = 0 := by rcases hcode with h | h; exact absurd h.1 (by simp); exact h.2
          subst hc
          obtain ⟨rfl, hnl, hg', hne'⟩ := HDr.out size' l' rfl
          have HNL := Lib.hid hnl
          clear hcode HDr hnl
          refine (hL1 _).mono ?_
          rintro e w7 ⟨ptr, rfl, hx7, A2, g2, lv2, cap2, rfl, hS2, hA2l, hg2l⟩
          go_wp2_with (fail)
          refine (hL2 _).mono ?_
          rintro e w8 ⟨v, rfl, hx8, P2, capP2, rfl, hRA2⟩
          have hxa := (Ext.refl w8).alloc (.cells #[.int .i64 (size' : Int), .slice P2 l'.length capP2] 28)
          have hX9 := ((hX6.ext hx7).ext hx8).ext hxa
          have hM9 := ((hM6.ext hx7).ext hx8).ext hxa
          have hS9 := (hS2.ext hx8).ext hxa
          have hw9 := ((hw6.trans hx7).trans hx8).trans hxa
          have x91 := hX9.cells.2.1
          have x92 := hX9.cells.2.2.1
          have hall := refAll7 PR size' cR l hM9.rs
          have hall2 := fun W hW => sall_any A2 g2 size' cap2 l' lv2 W hW
          have hal := allL_len l (fun i hi => (hg.good i hi).1) l.length (Nat.le_refl _)
          have hal' := allL_len l' (fun i hi => (hg'.good i hi).1) l'.length (Nat.le_refl _)
          have hle := hg.le
          have hle' := hg'.le
          have HAL := Lib.hid (fun (a : Int × Int) (h : a ∈ allL l l.length) => allL_mem h)
          have HAL' := Lib.hid (fun (a : Int × Int) (h : a ∈ allL l' l'.length) => allL_mem h)
          have HSM := Lib.hid (fun hs => hne' (areas_same hg hg' HNL.out hs))
          clear hX4 hX5 hX6 hM4 hM5 hM6 hMd hS2 hA2l hg2l hRA2 hne' r0 r3 r4 hL1 hL2 HY
          generalize hA1 : allL l l.length = L1 at *
          generalize hA2 : allL l' l'.length = L2 at *
          clear hA1 hA2
          have hs9 : (w8.alloc (.cells #[.int .i64 (size' : Int), .slice P2 l'.length capP2] 28)).heap.size = w8.heap.size + 1 := by simp
          rw [hs9] at hall
          obtain ⟨AL, hAL⟩ : ∃ AL, L1 ++ L2 = AL := ⟨_, rfl⟩
          have HL12 := Lib.hid (fun (a : Int × Int) (h : a ∈ AL) => List.mem_append.1 (by rw [hAL]; exact h : a ∈ L1 ++ L2))
          have hlen12 : AL.length ≤ 80000 := by rw [← hAL, List.length_append]; omega
          have HALE := Lib.hid hAL
          rw [hAL] at HSM
          clear hAL
          go_wp2_with (first
            | (go_at_call 11; refine hall.mono ?_; rintro e w10 ⟨⟨v10, rfl, ho10⟩, hx10⟩; have hsz10 := hx10.size)
            | (go_at_call 24; refine (hall2 _ (hS9.ext hx10)).mono ?_; rintro e w11 ⟨⟨v11, rfl, ho11⟩, hx11⟩; obtain ⟨P11, c11, rfl, hs11, hn11⟩ := ho11.slN elemAd (by omega); have hsz11 := hx11.size)
            | (at_builtin; refine wpList_app_G _ elemAd rfl _ _ rfl (base := w8.heap.size + 1) rfl (ho10.ext hx11) rfl hs11 hn11 (by omega) (by omega) (by omega) ?_; intro v12 w12 ho12 hb12; rw [HALE.out] at ho12; obtain ⟨Pa, ca, rfl, hSa, _⟩ := ho12.range elemAd (by omega)))
          have hx912 := below_ext (hx10.trans hx11) hb12 (Nat.le_of_eq hs9)
          have hX12 := hX9.ext hx912
          have hM12 := hM9.ext hx912
          have hS12 := hS9.ext hx912
          have hw12 := hw9.trans hx912
          clear hall hall2 hS9 hM9 hX9 x91 x92 ho10 ho11 hs11 ho12
          go_loopw [23] (fun i wr => ∃ k : Nat, k ≤ AL.length ∧ i = .int .i64 k ∧ Ext w12 wr ∧ ∀ j q y, j < k → AL[j]? = some (((q : Nat) : Int), y) → ∃ r, GetR (cel (nthB l q)) (cnt (nthB l q)) y r ∧ GetR (cel (nthB l' q)) (cnt (nthB l' q)) y r) (fun i _ => AL.length - (intOf i).toNat)
          case atStart => exact ⟨0, by omega, rfl, Ext.refl _, fun j q y h => by omega⟩
          case round =>
            obtain ⟨k, hk, rfl, hx, hsame⟩ := hrel
            have hMr := hM12.ext hx
            have hXr := hX12.ext hx
            have hSr := hS12.ext hx
            have x1 := hXr.cells.2.1
            have x2 := hXr.cells.2.2.1
            by_cases hlt : k < AL.length
            · obtain ⟨a, hak⟩ : ∃ a, AL[k]? = some a := ⟨AL[k], List.getElem?_eq_getElem hlt⟩
              obtain ⟨q, y, hq, hy, rfl⟩ : ∃ (q : Nat) (y : Int), q < l.length ∧ (1 ≤ y ∧ y ≤ 200) ∧ a = ((q : Int), y) := by
                rcases HL12.out a (List.mem_of_getElem? hak) with h | h
                · obtain ⟨q, i, hq, hi, rfl⟩ := HAL.out a h
                  exact ⟨q, _, hq, cel_line (hg.good q hq).1 i hi, rfl⟩
                · obtain ⟨q, i, hq, hi, rfl⟩ := HAL'.out a h
                  exact ⟨q, _, by rw [← HNL.out]; exact hq, cel_line (hg'.good q hq).1 i hi, rfl⟩
              obtain ⟨ba, oa, rfl, hca⟩ := hSa.at_ k _ hak
              have a0 := hx.cell (hca 0 _ rfl)
              have a1 := hx.cell (hca 1 _ rfl)
              simp only [List.length_cons, List.length_nil, Nat.reduceAdd, Nat.add_zero] at a0 a1
              obtain ⟨rr, hrr⟩ := getR_some (cel (nthB l q)) (cnt (nthB l q)) y
              obtain ⟨rp, hrp⟩ := getR_some (cel (nthB l' q)) (cnt (nthB l' q)) y
              have c1 : (k : Int) < AL.length := by omega
              have hGp := fun W hW => sget_r A2 g2 size' cap2 l' lv2 q y rp W hW (by rw [HNL.out]; exact hq) hy hrp
              have hGr := fun W hW => refGet7_r PR size' cR q l y rr (w := W) hW hq hy hrr
              simp only [two2] at hGp hGr
              have HAK := Lib.hid hak
              have HSA := Lib.hid hsame
              clear hca hak hsame
              go_wp2_with (go_at_call 15; refine (hGp _ hSr).mono ?_; rintro e w8' ⟨rfl, hx13⟩)
              have hM8 := hMr.ext hx13
              have x81 := hx13.cell x1
              have x82 := hx13.cell x2
              have a80 := hx13.cell a0
              have a81 := hx13.cell a1
              clear x1 x2 a0 a1
              go_region_held3 (fun w' => w'.cell? ⟨X, 1, none⟩ = some (.int .i64 size') ∧ w'.cell? ⟨X, 2, none⟩ = some (.slice PR l.length cR) ∧ w'.cell? ⟨ba, oa + k * 2, none⟩ = some (.int .i64 q) ∧ w'.cell? ⟨ba, oa + k * 2 + 1, none⟩ = some (.int .i64 y)) (first | go_keep | (refine ⟨Ext.cell ?_ x81, Ext.cell ?_ x82, Ext.cell ?_ a80, Ext.cell ?_ a81⟩ <;> (repeat (first | exact Ext.refl _ | assumption | refine Ext.trans ?_ hx9' | refine Ext.drew ?_ | refine Ext.drewN ?_ _ | refine Ext.alloc ?_ _))))
                (first | (go_at_call 16; refine (hGr _ (hM8.rs.ext ((Ext.refl _).drew))).mono ?_; rintro e w9' ⟨rfl, hx9'⟩) | fail)
              have hX9' := hx13.trans ((Ext.refl w8').drew.trans hx9')
              clear x81 x82 a80 a81
              by_cases heq : rp = rr
              · subst heq
                have ne1 : ∀ s : ByteArray, (s.toList != s.toList) = false := fun s => by simp
                go_wp2
                refine ⟨⟨k + 1, by omega, by go_num, hx.trans hX9', fun j q2 y2 hj hjk => ?_⟩, by simp [intOf]; omega⟩
                by_cases hjk2 : j = k
                · subst hjk2
                  rw [HAK.out] at hjk
                  simp only [Option.some.injEq, Prod.mk.injEq] at hjk
                  obtain ⟨h1, rfl⟩ := hjk
                  obtain rfl : q = q2 := by omega
                  exact ⟨rp, hrr, hrp⟩
                · exact HSA.out j q2 y2 (by omega) hjk
              · by_cases h1 : rp.1 = rr.1
                · have n2 : (rp.2 != rr.2) = true := by
                    simp only [bne_iff_ne, ne_eq]
                    exact fun h2 => heq (Prod.ext h1 h2)
                  clear heq
                  generalize rp.1 = d1 at *
                  generalize rr.1 = d2 at *
                  subst h1
                  go_wp2_with (go_at_call 9; refine (sawake_any _).mono ?_; rintro e w14 ⟨rfl, hx14⟩)
                  go_ret
                  exact ⟨rfl, ((hw12.trans hx).trans hX9').trans hx14⟩
                · have n1 : ¬ rp.1.toList = rr.1.toList := by
                    intro h2
                    apply h1
                    rw [Lib.toList_data, Lib.toList_data] at h2
                    exact bytes_ext h2
                  clear heq h1
                  go_wp2_with (go_at_call 9; refine (sawake_any _).mono ?_; rintro e w14 ⟨rfl, hx14⟩)
                  go_ret
                  exact ⟨rfl, ((hw12.trans hx).trans hX9').trans hx14⟩
            · exfalso
              obtain rfl : k = AL.length := by omega
              refine HSM.out fun q y hm => ?_
              obtain ⟨j, hj, hjk⟩ := List.getElem_of_mem hm
              exact hsame j q y hj (by rw [List.getElem?_eq_getElem hj, hjk]))
end Go.Proofs.YtnileonlabpbpaaGreat
