/- ChainTexts: Parse of the reference. -/
import Derived.Test.YtpobjheodlkkiaaGreatDoorChTD
namespace Go.Proofs.YtpobjheodlkkiaaGreatDoor
open Go.RowKit Go.Maps
set_option linter.unusedVariables false
set_option linter.unusedSimpArgs false
set_option linter.unusedSectionVars false
set_option maxRecDepth 100000
attribute [local go_sem] Oper.semAt_some

def ParsePostC (r : List Lk × Int) (w : World) (e : Ending) (w' : World) : Prop :=
  ∃ P cap, e = .returned (.tuple #[.slice P r.1.length cap, .int .i64 r.2]) ∧ SlL w' P cap r.1 ∧ (P = none → cap = 0) ∧ (∀ x ∈ r.1, OkK x) ∧ Ext w w'
theorem ParsePostC.no (w w' : World) (n : Int) (hx : Ext w w') : ParsePostC ([], n) w (.returned (.tuple #[.slice none 0 0, .int .i64 n])) w' :=
  ⟨none, 0, rfl, SlG.nil _ _, fun _ => rfl, by simp, hx⟩
def A4 (x : Nat → Int) (k : Nat) : Array Value := I4 (if 0 < k then x 0 else 0) (if 1 < k then x 1 else 0) (if 2 < k then x 2 else 0) (if 3 < k then x 3 else 0)
def X4 (z0 z1 z2 z3 : ByteArray) (k : Nat) : Int := if k = 0 then (wholeF z0.data.toList).1 else if k = 1 then (wholeF z1.data.toList).1 else if k = 2 then (wholeF z2.data.toList).1 else (wholeF z3.data.toList).1
theorem A4_set (x : Nat → Int) (k : Nat) (h : k < 4) : (A4 x k).setIfInBounds k (.int .i64 (x k)) = A4 x (k + 1) := by
  rcases (show k = 0 ∨ k = 1 ∨ k = 2 ∨ k = 3 by omega) with rfl | rfl | rfl | rfl <;> rfl
def RLO (w1 : World) (LS : List (List UInt8)) (t4 t6 : Value) (wr : World) : Prop :=
  ∃ (j : Nat) (L : List Lk), j ≤ LS.length ∧ t6 = .int .i64 (j : Int) ∧ readRC (LS.take j) = some L ∧ OwnL wr w1.heap.size t4 L ∧ Ext w1 wr
def OKS (z0 z1 z2 z3 : ByteArray) (k : Nat) : Prop := (0 < k → (wholeF z0.data.toList).2 = true) ∧ (1 < k → (wholeF z1.data.toList).2 = true) ∧ (2 < k → (wholeF z2.data.toList).2 = true) ∧ (3 < k → (wholeF z3.data.toList).2 = true)
def RLI (B : Nat) (x : Nat → Int) (O : Nat → Prop) (w6 : World) (t9 : Value) (wz : World) : Prop :=
  ∃ k : Nat, k ≤ 4 ∧ t9 = .int .i64 (k : Int) ∧ O k ∧ BoxN wz B 39 (A4 x k) ∧ Ext w6 wz
set_option maxHeartbeats 4000000 in
theorem rparse_any (t : ByteArray) (ht : t.size ≤ 10000) (w : World) :
    Calls Tryz.prog 9 #[.string t] w (ParsePostC (parseRC t.data.toList) w) := by
  have htl : t.data.toList.length = t.size := by simp
  have c0 : ¬ (20000 : Int) < t.size := by omega
  have hC := rcut_any t 10 (by omega) w
  have hcp := cutB_pos 10 t
  have hcz := cutB_size 10 t
  have hsz : ∀ y ∈ cutB 10 t, y.size ≤ 10000 := fun y hy => by
    obtain ⟨q, hq, rfl⟩ := List.mem_map.1 hy
    have := cutC_mem 10 _ q hq
    rw [mkB_size]
    omega
  obtain ⟨LS, hLS⟩ : ∃ LS, (cutC 10 t.data.toList).dropLast = LS := ⟨_, rfl⟩
  have hlen : LS.length + 1 = (cutB 10 t).length := by
    have h1 : (cutB 10 t).length = (cutC 10 t.data.toList).length := by unfold cutB; rw [List.length_map]
    rw [← hLS, List.length_dropLast]
    omega
  have HAT := Lib.hid (show ∀ j y, j < LS.length → (cutB 10 t)[j]? = some y → LS[j]? = some y.data.toList from fun j y hj hy => by
    rw [← hLS, List.getElem?_dropLast]
    unfold cutB at hy
    rw [List.getElem?_map] at hy
    have : j < (cutC 10 t.data.toList).length - 1 := by rw [← hLS, List.length_dropLast] at hj; exact hj
    rw [if_pos this]
    cases h : (cutC 10 t.data.toList)[j]? with
    | none => rw [h] at hy; cases hy
    | some q => rw [h] at hy; injection hy with hy; subst hy; rfl)
  obtain ⟨rr, hrr⟩ : ∃ rr, parseRC t.data.toList = rr := ⟨_, rfl⟩
  rw [hrr]
  have HRR := Lib.hid (show rr = match readRC LS with | none => ([], 2) | some l => if fmtC l ≠ t.data.toList ∨ t.data.toList = [] then ([], 2) else (l, 0) from by
    rw [← hrr, ← hLS]; unfold parseRC; rw [if_neg (by omega)]
    generalize readRC ((cutC 10 t.data.toList).dropLast) = q
    cases q <;> rfl)
  clear hrr hLS
  generalize cutB 10 t = lw at *
  go_enter Tryz.func9, Tryz.ntmps9
  go_wp2_with (go_at_call 22; refine hC.mono ?_; rintro e w1 ⟨v1, rfl, ho1, hx1⟩; obtain ⟨g, cw, rfl, hg1, hg2, hg3, hg4⟩ := OwnG.tight ho1 (by omega))
  have HO1 := Lib.hid ho1
  clear hC ho1
  have n1 : IntKind.i64.wrap ((lw.length : Int) - 1) = (lw.length : Int) - 1 := IntWalk.i64_in _ ⟨by omega, by omega⟩
  go_loopw [4, 6] (fun t4 t6 wr => RLO w1 LS t4 t6 wr) (fun _ i _ => lw.length - (intOf i).toNat)
  case atStart => exact ⟨0, [], by omega, rfl, rfl, OwnG.nil _ _ _ _ _, Ext.refl _⟩
  case round =>
    obtain ⟨j, L, hj, rfl, hL, hown, hx2⟩ := hrel
    have hLl : L.length = j := by have := (readRC_facts _ _ hL).1; rw [List.length_take] at this; omega
    have n2 : IntKind.i64.wrap ((j : Int) + 1) = (j : Int) + 1 := IntWalk.i64_in _ ⟨by omega, by omega⟩
    by_cases hlt : j < LS.length
    · obtain ⟨y, hy⟩ : ∃ y, lw[j]? = some y := ⟨lw[j], List.getElem?_eq_getElem (by omega)⟩
      have kc := hx2.cell (OwnG.cell1 (fun _ => rfl) HO1.out rfl j _ (.string y) hy rfl)
      have hyz := hsz y (List.mem_of_getElem? hy)
      have hyL := HAT.out j y hlt hy
      have HBAD := Lib.hid (show lineRC y.data.toList = none → rr = ([], 2) from fun hb => by
        rw [HRR.out, readRC_bad LS _ (List.mem_of_getElem? hyL) hb])
      have HGO := Lib.hid (show ∀ z, lineRC y.data.toList = some z → readRC (LS.take (j + 1)) = some (L ++ [z]) from fun z hz => by
        rw [List.take_add_one, hyL]; exact readRC_snoc _ _ _ _ hL hz)
      have hC2 := fun W => rcut_any y 32 (by omega) W
      have hpz := cutB_size 32 y
      have hpos := cutB_pos 32 y
      have hzz : ∀ z ∈ cutB 32 y, z.size ≤ 10000 := fun z hz => by
        obtain ⟨p, hp, rfl⟩ := List.mem_map.1 hz
        have := cutC_mem 32 _ p hp
        rw [mkB_size]
        have h2 : y.data.toList.length = y.size := by simp
        omega
      have HB := Lib.hid (lineRC_B y)
      have HLN := Lib.hid (lineRC_len y)
      generalize cutB 32 y = pw at *
      have c1 : (j : Int) < (lw.length : Int) - 1 := by omega
      have c2 : (j : Int) < lw.length := by omega
      have HX2 := Lib.hid hx2
      have HOW := Lib.hid hown
      have HLL := Lib.hid hLl
      clear hy hyL hL hsz hown HAT HRR hLl
      by_cases h4 : pw.length = 4
      · obtain ⟨z0, z1, z2, z3, rfl⟩ := four_of h4
        go_wp2_with (go_at_call 22; refine (hC2 _).mono ?_; rintro e w6 ⟨v6, rfl, ho6, hx6⟩; obtain ⟨g6, c6, rfl, hg61, hg62, hg63, hg64⟩ := OwnG.tight ho6 (by omega))
        have HO6 := Lib.hid ho6
        clear ho6 kc hC2 h4
        have hb0 : BoxN (w6.alloc (.cells (I4 0 0 0 0) 39)) w6.heap.size 39 (A4 (X4 z0 z1 z2 z3) 0) := BoxN.new w6 _ _
        go_loopw [9] (fun t9 wz => RLI w6.heap.size (X4 z0 z1 z2 z3) (OKS z0 z1 z2 z3) w6 t9 wz) (fun i _ => 4 - (intOf i).toNat)
        case atStart => exact ⟨0, by omega, rfl, ⟨fun h => by omega, fun h => by omega, fun h => by omega, fun h => by omega⟩, hb0, (Ext.refl _).alloc _⟩
        case round =>
          obtain ⟨k, hk1, rfl, hok, hbx, hx7⟩ := hrel
          have c3 : IntKind.i64.wrap ((k : Int) + 1) = (k : Int) + 1 := IntWalk.i64_in _ ⟨by omega, by omega⟩
          by_cases hk4 : k < 4
          · rcases (show k = 0 ∨ k = 1 ∨ k = 2 ∨ k = 3 by omega) with rfl | rfl | rfl | rfl
            · have zc := hx7.cell (OwnG.cell1 (fun _ => rfl) HO6.out rfl 0 _ (.string z0) rfl rfl)
              have hWz := fun W => rwhole_any z0 (by have := hzz z0 (by simp); omega) W
              have fz := hbx.frozen 0
              have oc := hbx.cell (i := 0) (v := .int .i64 0) rfl
              cases hf : (wholeF z0.data.toList).2 with
              | false =>
                have HR := Lib.hid (HBAD.out (by rw [HB.out]; simp [hf]))
                rw [hf] at hWz
                clear HB HLN HBAD HGO hok hf
                go_wp2_with (go_at_call 23; refine (hWz _).mono ?_; rintro e w8 ⟨rfl, rfl⟩)
                go_ret2
                rw [HR.out]
                exact ParsePostC.no _ _ _ ((hx1.trans (HX2.out.trans (hx6.trans hx7))).setCell (by simp only; have := hx1.size; have := HX2.out.size; have := hx6.size; omega) _)
              | true =>
                have HK := Lib.hid (show OKS z0 z1 z2 z3 1 from ⟨fun _ => hf, fun h => by omega, fun h => by omega, fun h => by omega⟩)
                rw [hf] at hWz
                have HBX := Lib.hid (hbx.set 0 (.int .i64 (wholeF z0.data.toList).1))
                clear hok hf HB HLN HBAD HGO
                go_wp2_with (go_at_call 23; refine (hWz _).mono ?_; rintro e w8 ⟨rfl, rfl⟩)
                go_roundw
                case rel => exact ⟨1, by omega, by go_num, HK.out, by have := HBX.out; exact this, hx7.setCell (by simp) _⟩
                case measure => simp [intOf]
            · have zc := hx7.cell (OwnG.cell1 (fun _ => rfl) HO6.out rfl 1 _ (.string z1) rfl rfl)
              have hWz := fun W => rwhole_any z1 (by have := hzz z1 (by simp); omega) W
              have fz := hbx.frozen 1
              have oc := hbx.cell (i := 1) (v := .int .i64 0) rfl
              cases hf : (wholeF z1.data.toList).2 with
              | false =>
                have HR := Lib.hid (HBAD.out (by rw [HB.out]; simp [hf]))
                rw [hf] at hWz
                clear HB HLN HBAD HGO hok hf
                go_wp2_with (go_at_call 23; refine (hWz _).mono ?_; rintro e w8 ⟨rfl, rfl⟩)
                go_ret2
                rw [HR.out]
                exact ParsePostC.no _ _ _ ((hx1.trans (HX2.out.trans (hx6.trans hx7))).setCell (by simp only; have := hx1.size; have := HX2.out.size; have := hx6.size; omega) _)
              | true =>
                have HK := Lib.hid (show OKS z0 z1 z2 z3 2 from ⟨fun _ => hok.1 (by omega), fun _ => hf, fun h => by omega, fun h => by omega⟩)
                rw [hf] at hWz
                have HBX := Lib.hid (hbx.set 1 (.int .i64 (wholeF z1.data.toList).1))
                clear hok hf HB HLN HBAD HGO
                go_wp2_with (go_at_call 23; refine (hWz _).mono ?_; rintro e w8 ⟨rfl, rfl⟩)
                go_roundw
                case rel => exact ⟨2, by omega, by go_num, HK.out, by have := HBX.out; exact this, hx7.setCell (by simp) _⟩
                case measure => simp [intOf]
            · have zc := hx7.cell (OwnG.cell1 (fun _ => rfl) HO6.out rfl 2 _ (.string z2) rfl rfl)
              have hWz := fun W => rwhole_any z2 (by have := hzz z2 (by simp); omega) W
              have fz := hbx.frozen 2
              have oc := hbx.cell (i := 2) (v := .int .i64 0) rfl
              cases hf : (wholeF z2.data.toList).2 with
              | false =>
                have HR := Lib.hid (HBAD.out (by rw [HB.out]; simp [hf]))
                rw [hf] at hWz
                clear HB HLN HBAD HGO hok hf
                go_wp2_with (go_at_call 23; refine (hWz _).mono ?_; rintro e w8 ⟨rfl, rfl⟩)
                go_ret2
                rw [HR.out]
                exact ParsePostC.no _ _ _ ((hx1.trans (HX2.out.trans (hx6.trans hx7))).setCell (by simp only; have := hx1.size; have := HX2.out.size; have := hx6.size; omega) _)
              | true =>
                have HK := Lib.hid (show OKS z0 z1 z2 z3 3 from ⟨fun _ => hok.1 (by omega), fun _ => hok.2.1 (by omega), fun _ => hf, fun h => by omega⟩)
                rw [hf] at hWz
                have HBX := Lib.hid (hbx.set 2 (.int .i64 (wholeF z2.data.toList).1))
                clear hok hf HB HLN HBAD HGO
                go_wp2_with (go_at_call 23; refine (hWz _).mono ?_; rintro e w8 ⟨rfl, rfl⟩)
                go_roundw
                case rel => exact ⟨3, by omega, by go_num, HK.out, by have := HBX.out; exact this, hx7.setCell (by simp) _⟩
                case measure => simp [intOf]
            · have zc := hx7.cell (OwnG.cell1 (fun _ => rfl) HO6.out rfl 3 _ (.string z3) rfl rfl)
              have hWz := fun W => rwhole_any z3 (by have := hzz z3 (by simp); omega) W
              have fz := hbx.frozen 3
              have oc := hbx.cell (i := 3) (v := .int .i64 0) rfl
              cases hf : (wholeF z3.data.toList).2 with
              | false =>
                have HR := Lib.hid (HBAD.out (by rw [HB.out]; simp [hf]))
                rw [hf] at hWz
                clear HB HLN HBAD HGO hok hf
                go_wp2_with (go_at_call 23; refine (hWz _).mono ?_; rintro e w8 ⟨rfl, rfl⟩)
                go_ret2
                rw [HR.out]
                exact ParsePostC.no _ _ _ ((hx1.trans (HX2.out.trans (hx6.trans hx7))).setCell (by simp only; have := hx1.size; have := HX2.out.size; have := hx6.size; omega) _)
              | true =>
                have HK := Lib.hid (show OKS z0 z1 z2 z3 4 from ⟨fun _ => hok.1 (by omega), fun _ => hok.2.1 (by omega), fun _ => hok.2.2.1 (by omega), fun _ => hf⟩)
                rw [hf] at hWz
                have HBX := Lib.hid (hbx.set 3 (.int .i64 (wholeF z3.data.toList).1))
                clear hok hf HB HLN HBAD HGO
                go_wp2_with (go_at_call 23; refine (hWz _).mono ?_; rintro e w8 ⟨rfl, rfl⟩)
                go_roundw
                case rel => exact ⟨4, by omega, by go_num, HK.out, by have := HBX.out; exact this, hx7.setCell (by simp) _⟩
                case measure => simp [intOf]
          · obtain rfl : k = 4 := by omega
            obtain ⟨o0, o1, o2, o3⟩ := hok
            have HN := Lib.hid (HGO.out (X4 z0 z1 z2 z3 0, X4 z0 z1 z2 z3 1, X4 z0 z1 z2 z3 2, X4 z0 z1 z2 z3 3) (by rw [HB.out]; simp [o0, o1, o2, o3, X4]))
            have l0 := hbx.cell (i := 0) (v := .int .i64 (X4 z0 z1 z2 z3 0)) rfl
            have l1 := hbx.cell (i := 1) (v := .int .i64 (X4 z0 z1 z2 z3 1)) rfl
            have l2 := hbx.cell (i := 2) (v := .int .i64 (X4 z0 z1 z2 z3 2)) rfl
            have l3 := hbx.cell (i := 3) (v := .int .i64 (X4 z0 z1 z2 z3 3)) rfl
            generalize X4 z0 z1 z2 z3 0 = x0 at *
            generalize X4 z0 z1 z2 z3 1 = x1 at *
            generalize X4 z0 z1 z2 z3 2 = x2 at *
            generalize X4 z0 z1 z2 z3 3 = x3 at *
            have hx67 := hx6.trans hx7
            have HO := Lib.hid (HOW.out.ext hx67)
            have HXX := Lib.hid (HX2.out.trans hx67)
            have hsz2 := HXX.out.size
            have hLn := HLL.out
            clear hbx o0 o1 o2 o3 HB HLN HBAD HGO hb0
            go_wp2_with (at_builtin; refine wpList_app_G _ elemL rfl _ _ rfl (base := w1.heap.size) rfl (HO.out.ext ((Ext.refl _).alloc _)) (m := [(x0, x1, x2, x3)]) rfl (SlG.one elemL.hk _ ?d1 ?d2) ?d3 ?d4 ?d5 ?d6 ?_)
            case d1 => rfl
            all_goals first
              | (intro e; cases e; done)
              | (simp; omega; done)
              | rfl
              | skip
            intro v' w3 hown' hbl
            have hx3 : Ext w1 w3 := below_ext (HXX.out.alloc _) hbl (Nat.le_refl _)
            go_wp2
            go_roundw
            case rel => exact ⟨j + 1, L ++ [(x0, x1, x2, x3)], by omega, by go_num, HN.out, hown', hx3⟩
            case measure => simp [intOf]; omega
      · have HR := Lib.hid (HBAD.out (HLN.out h4))
        have c4 : ((pw.length : Int) != 4) = true := by simp; omega
        have c5 : (pw.length != 4) = true := by simpa using h4
        clear HB HLN HBAD HGO h4
        go_wp2_with (go_at_call 22; refine (hC2 _).mono ?_; rintro e w6 ⟨v6, rfl, ho6, hx6⟩; obtain ⟨g6, c6, rfl, hg61, hg62, hg63, hg64⟩ := OwnG.tight ho6 (by omega))
        go_ret2
        rw [HR.out]
        exact ParsePostC.no _ _ _ (hx1.trans (HX2.out.trans hx6))
    · obtain rfl : j = LS.length := by omega
      rw [List.take_length] at hL
      have c1 : ¬ (LS.length : Int) < (lw.length : Int) - 1 := by omega
      have hOK := (readRC_facts _ _ hL).2
      obtain ⟨P, cap, rfl, hS⟩ := hown.slG elemL (by omega)
      have hPn : P = none → cap = 0 := by
        intro hp
        obtain ⟨P', c', e', _, hz⟩ := OwnG.res elemL hown (by omega)
        injection e' with e1 e2 e3
        rw [e3]; exact hz (by rw [← e1]; exact hp)
      have hF := fun W' (hw : Ext _ W') => rfmt_any P cap L W' (hS.ext hw) hOK
      have hHR := HRR.out
      rw [hL] at hHR
      simp only at hHR
      clear hsz HRR HAT hL hown hLl
      by_cases hm : fmtC L = t.data.toList
      · have e1 : mkB (fmtC L) = t := by rw [hm]; rfl
        rw [e1] at hF
        have ht2 : (t.toList != t.toList) = false := by simp
        by_cases he : t.data.toList = []
        · rw [if_pos (.inr he)] at hHR
          subst hHR
          have et : t = ⟨#[]⟩ := ByteArray.ext (Array.ext' (by rw [he]))
          have q1 : (t.toList == (⟨#[]⟩ : ByteArray).toList) = true := by rw [et]; simp
          have q2 : (t.toList == []) = true := by rw [Lib.toList_data, he]; rfl
          have q3 : t.toList = [] := by rw [Lib.toList_data, he]
          clear hm e1
          go_wp2_with (go_at_call 6; refine (hF _ (Ext.refl _)).mono ?_; rintro e W6 ⟨rfl, hx6⟩)
          go_ret2
          exact ParsePostC.no _ _ _ (hx1.trans (hx2.trans hx6))
        · rw [if_neg (by rintro (h | h); exact h hm; exact he h)] at hHR
          subst hHR
          have q4 : ¬ t.toList = [] := by rw [Lib.toList_data]; exact he
          have q2 : (t.toList == []) = false := by simpa using q4
          have q5 : (⟨#[]⟩ : ByteArray).toList = [] := by rw [Lib.toList_data]
          have q1 : (t.toList == (⟨#[]⟩ : ByteArray).toList) = false := by rw [q5]; exact q2
          have q6 : ¬ t = ⟨#[]⟩ := fun e => he (by rw [e])
          clear hm e1 he
          go_wp2_with (go_at_call 6; refine (hF _ (Ext.refl _)).mono ?_; rintro e W6 ⟨rfl, hx6⟩)
          go_ret2
          exact ⟨P, cap, rfl, hS.ext hx6, hPn, hOK, hx1.trans (hx2.trans hx6)⟩
      · rw [if_pos (.inl hm)] at hHR
        subst hHR
        have ht4 : ¬ (mkB (fmtC L)).toList = t.toList := by rw [Lib.toList_data, Lib.toList_data, mkB_toList]; exact hm
        have ht3 : ((mkB (fmtC L)).toList == t.toList) = false := by simpa using ht4
        have ht2 : ((mkB (fmtC L)).toList != t.toList) = true := by simpa using ht4
        have ht5 : ¬ mkB (fmtC L) = t := fun e => ht4 (by rw [e])
        have ht6 : decide ((mkB (fmtC L)).toList = t.toList) = false := decide_eq_false ht4
        generalize mkB (fmtC L) = FF at *
        clear hm
        go_wp2_with (go_at_call 6; refine (hF _ (Ext.refl _)).mono ?_; rintro e W6 ⟨rfl, hx6⟩)
        go_ret2
        exact ParsePostC.no _ _ _ (hx1.trans (hx2.trans hx6))
end Go.Proofs.YtpobjheodlkkiaaGreatDoor
