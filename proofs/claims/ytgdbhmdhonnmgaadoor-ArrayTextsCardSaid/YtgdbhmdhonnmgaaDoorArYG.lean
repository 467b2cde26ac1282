/- ArrayTexts: Parse of the reference. -/
import Derived.Test.YtgdbhmdhonnmgaaDoorArYF
import Derived.Test.YtgdbhmdhonnmgaaDoorArYD
import Derived.Test.YtgdbhmdhonnmgaaDoorTxF
namespace Go.Proofs.YtgdbhmdhonnmgaaDoor
open Go.RowKit Go.Maps
set_option linter.unusedVariables false
set_option linter.unusedSimpArgs false
set_option linter.unusedSectionVars false
set_option maxRecDepth 100000
attribute [local go_sem] Oper.semAt_some

def rowB (y : ByteArray) : List Int := (cutB 32 y).map fun z => (wholeF z.data.toList).1
def okB (y : ByteArray) : Bool := (cutB 32 y).all fun z => (wholeF z.data.toList).2
def midB (lw : List ByteArray) : List ByteArray := (lw.drop 1).take (lw.length - 2)
theorem rowB_R (y : ByteArray) : rowB y = rowR y.data.toList := by unfold rowB rowR cutB; rw [List.map_map]; exact List.map_congr_left (fun x _ => rfl)
theorem okB_R (y : ByteArray) : okB y = okR y.data.toList := by unfold okB okR cutB; rw [List.all_map]; rfl
theorem midB_R (t : ByteArray) : midR t.data.toList = (midB (cutB 10 t)).map (·.data.toList) := by
  unfold midR midB cutB
  rw [List.length_map, ← List.map_drop, ← List.map_take, List.map_map]
  exact (List.map_id'' (fun x => rfl) _).symm
theorem getD_R (t : ByteArray) : (cutC 10 t.data.toList).getD 0 [] = ((cutB 10 t).getD 0 ⟨#[]⟩).data.toList := by
  unfold cutB
  rw [List.getD_eq_getElem?_getD, List.getD_eq_getElem?_getD, List.getElem?_map]
  cases (cutC 10 t.data.toList)[0]? <;> rfl
/-- the reference's answer, told over byte arrays -/
theorem parseR_B (t l0 : ByteArray) (hl : ¬ 20000 < t.data.toList.length) (h0 : (cutB 10 t).getD 0 ⟨#[]⟩ = l0) : parseR t.data.toList =
    if l0.data.toList.length < 3 ∨ l0.data.toList.take 2 ≠ [98, 32] then (0, [], 2)
    else if ((wholeF (l0.data.toList.drop 2)).2 && (midB (cutB 10 t)).all okB) = false ∨ fmtA (wholeF (l0.data.toList.drop 2)).1 ((midB (cutB 10 t)).map rowB) ≠ t.data.toList then (0, [], 2)
    else ((wholeF (l0.data.toList.drop 2)).1, (midB (cutB 10 t)).map rowB, 0) := by
  have e1 : (midR t.data.toList).map rowR = (midB (cutB 10 t)).map rowB := by rw [midB_R, List.map_map]; exact List.map_congr_left (fun x _ => (rowB_R x).symm)
  have e2 : (midR t.data.toList).all okR = (midB (cutB 10 t)).all okB := by
    rw [midB_R, List.all_map]
    congr 1
    funext x
    exact (okB_R x).symm
  unfold parseR
  rw [if_neg hl, getD_R, h0, e1, e2]
def RPO (w : World) (ml : List ByteArray) (ok0 : Bool) (t7 t8 t9 : Value) (wr : World) : Prop :=
  ∃ (j q : Nat) (RR : List Row), j ≤ ml.length ∧ q = j + 1 ∧ t9 = .int .i64 (q : Int) ∧ t7 = .bool (ok0 && (ml.take j).all okB) ∧ OwnA wr w.heap.size t8 RR ∧ RR.map Row.l = (ml.take j).map rowB ∧ Ext w wr
def RPI (pw : List ByteArray) (al : List Int) (okj : Bool) (w6 : World) (t7 t11 t12 : Value) (wz : World) : Prop :=
  ∃ k : Nat, k ≤ pw.length ∧ t12 = .int .i64 k ∧ t7 = .bool (okj && (pw.take k).all fun z => (wholeF z.data.toList).2) ∧ wz.ownsRow w6.heap.size 3 1 t11 k (intVs (al.take k)) ∧ Ext w6 wz
theorem take_all_succ {α : Type} (l : List α) (f : α → Bool) (k : Nat) (x : α) (h : l[k]? = some x) : (l.take (k + 1)).all f = ((l.take k).all f && f x) := by
  rw [List.take_add_one, h, List.all_append]; simp
theorem take_map_succ {α β : Type} (l : List α) (f : α → β) (k : Nat) (x : α) (h : l[k]? = some x) : (l.take (k + 1)).map f = (l.take k).map f ++ [f x] := by
  rw [List.take_add_one, h, List.map_append]; rfl
set_option maxHeartbeats 4000000 in
theorem rparse_any (t : ByteArray) (ht : t.size ≤ 10000) (w : World) :
    Calls Tryd.prog 10 #[.string t] w (ParsePost (parseR t.data.toList) w) := by
  have htl : t.data.toList.length = t.size := by simp
  have c0 : ¬ (20000 : Int) < t.size := by omega
  have hC := rcut_any t 10 (by omega) w
  have hcp := cutB_pos 10 t
  have hcz := cutB_size 10 t
  have hsz : ∀ y ∈ cutB 10 t, y.size ≤ 10000 := fun y hy => by
    obtain ⟨q, hq, rfl⟩ := List.mem_map.1 hy
    have := cutC_mem 10 _ q hq
    rw [mkB_size]
    omega
  obtain ⟨l0, hl0⟩ : ∃ l0, (cutB 10 t)[0]? = some l0 := ⟨(cutB 10 t)[0], List.getElem?_eq_getElem (by omega)⟩
  rw [parseR_B t l0 (by omega) (by rw [List.getD_eq_getElem?_getD, hl0]; rfl)]
  have hz0 := hsz l0 (List.mem_of_getElem? hl0)
  have hl0l : l0.data.toList.length = l0.size := by simp
  rw [hl0l]
  have HML := Lib.hid (show ∀ j y, (midB (cutB 10 t))[j]? = some y → (cutB 10 t)[j + 1]? = some y from fun j y hy => by
    unfold midB at hy
    rw [List.getElem?_take] at hy
    split at hy
    · rw [List.getElem?_drop] at hy
      rw [← hy]; congr 1; omega
    · cases hy)
  have hml : (midB (cutB 10 t)).length = (cutB 10 t).length - 2 := by
    unfold midB
    rw [List.length_take, List.length_drop]; omega
  generalize midB (cutB 10 t) = ml at *
  generalize cutB 10 t = lw at *
  by_cases h3 : l0.size < 3
  · have h3' : (l0.size : Int) < 3 := by omega
    rw [if_pos (.inl h3)]
    clear hml HML hsz
    go_enter Tryd.func10, Tryd.ntmps10
    go_wp2_with (go_at_call 22; refine hC.mono ?_; rintro e w1 ⟨v1, rfl, ho1, hx1⟩; obtain ⟨g, cw, rfl, hg1, hg2, hg3, hg4⟩ := OwnG.tight ho1 (by omega); have k0 := OwnG.cell1 (fun _ => rfl) ho1 rfl 0 _ (.string l0) hl0 rfl)
    go_ret3
    exact ⟨none, 0, fun _ => none, fun _ => 0, rfl, SlA.empty none 0 (by omega) (fun _ => none) (fun _ => 0), hx1⟩
  · have h3' : ¬ (l0.size : Int) < 3 := by omega
    have hs2 : ∀ W, (Instr.slice 9 (.string l0) none (some (.int .i64 2)) none).run Tryd.prog W = .ok (.string (mkB (l0.data.toList.take 2))) W := fun W => str_to l0 2 (by omega) W
    have q2 : (2 : Int) ≤ l0.size := by omega
    have hs3 : l0.extract 0 2 = mkB (l0.data.toList.take 2) := by rw [extract_mk, List.drop_zero]
    have l98 : (⟨#[98, 32]⟩ : ByteArray).toList = [98, 32] := by rw [Lib.toList_data]
    by_cases hp : l0.data.toList.take 2 = [98, 32]
    · rw [if_neg (by rintro (h | h); exact h3 h; exact h hp)]
      have e2 : mkB (l0.data.toList.take 2) = ⟨#[98, 32]⟩ := by rw [hp]; rfl
      rw [e2] at hs2 hs3
      have hf2 : ∀ W, (Instr.slice 9 (.string l0) (some (.int .i64 2)) none none).run Tryd.prog W = .ok (.string (mkB (l0.data.toList.drop 2))) W := fun W => str_from l0 2 (by omega) W
      have hf3 : l0.extract 2 l0.size = mkB (l0.data.toList.drop 2) := by rw [extract_mk, List.take_of_length_le (by simp)]
      have hW := fun W => rwhole_any (mkB (l0.data.toList.drop 2)) (by rw [mkB_size, List.length_drop]; omega) W
      rw [mkB_toList] at hW
      generalize mkB (l0.data.toList.drop 2) = Y at *
      obtain ⟨r0, hr0⟩ : ∃ r0, wholeF (l0.data.toList.drop 2) = r0 := ⟨_, rfl⟩
      rw [hr0] at hW ⊢
      clear hr0 e2 hp l98 h3 hl0l
      obtain ⟨b, ok0⟩ := r0
      simp only at hW ⊢
      obtain ⟨rr, hrr⟩ : ∃ rr, (if (ok0 && ml.all okB) = false ∨ fmtA b (ml.map rowB) ≠ t.data.toList then ((0 : Int), ([] : List (List Int)), (2 : Int)) else (b, ml.map rowB, 0)) = rr := ⟨_, rfl⟩
      rw [hrr]
      have HRR := Lib.hid hrr
      clear hrr
      have HC := Lib.hid hcz
      go_enter Tryd.func10, Tryd.ntmps10
      go_wp2_with (first
        | (go_at_call 22; refine hC.mono ?_; rintro e w1 ⟨v1, rfl, ho1, hx1⟩; obtain ⟨g, cw, rfl, hg1, hg2, hg3, hg4⟩ := OwnG.tight ho1 (by omega); have k0 := OwnG.cell1 (fun _ => rfl) ho1 rfl 0 _ (.string l0) hl0 rfl)
        | (go_at_call 23; refine (hW _).mono ?_; rintro e w2 ⟨rfl, rfl⟩))
      clear hC hW hs2 hf2 k0
      have HO1 := Lib.hid ho1
      have n1 : IntKind.i64.wrap ((lw.length : Int) - 1) = (lw.length : Int) - 1 := IntWalk.i64_in _ ⟨by omega, by omega⟩
      go_loopw [7, 8, 9] (fun t7 t8 t9 wr => RPO w1 ml ok0 t7 t8 t9 wr) (fun _ _ i _ => lw.length - (intOf i).toNat)
      case atStart => exact ⟨0, 1, [], by omega, rfl, rfl, by simp, OwnA.nil _ _, rfl, Ext.refl _⟩
      case round =>
        obtain ⟨j, q, RR, hj, hq, rfl, rfl, hA, hRR, hx2⟩ := hrel
        have n2 : IntKind.i64.wrap ((q : Int) + 1) = (q : Int) + 1 := IntWalk.i64_in _ ⟨by have := HC.out; omega, by have := HC.out; omega⟩
        obtain ⟨okj, hokj⟩ : ∃ okj, (ok0 && (ml.take j).all okB) = okj := ⟨_, rfl⟩
        rw [hokj]
        have hrl : RR.length ≤ 10000 := by have := congrArg List.length hRR; rw [List.length_map, List.length_map, List.length_take] at this; have := HC.out; omega
        by_cases hlt : j < ml.length
        · obtain ⟨y, hy⟩ : ∃ y, ml[j]? = some y := ⟨ml[j], List.getElem?_eq_getElem hlt⟩
          have hy2 := HML.out j y hy
          rw [← hq] at hy2
          have kc := hx2.cell (OwnG.cell1 (fun _ => rfl) HO1.out rfl q _ (.string y) hy2 rfl)
          have hyz := hsz y (List.mem_of_getElem? hy2)
          have HN := Lib.hid (show (ok0 && (ml.take (j + 1)).all okB) = (okj && okB y) ∧ (ml.take (j + 1)).map rowB = RR.map Row.l ++ [rowB y] from ⟨by rw [take_all_succ ml okB j y hy, ← hokj, Bool.and_assoc], by rw [take_map_succ ml rowB j y hy, hRR]⟩)
          have hC2 := fun W => rcut_any y 32 (by omega) W
          have hpos := cutB_pos 32 y
          have hpz := cutB_size 32 y
          have hzz : ∀ z ∈ cutB 32 y, z.size ≤ 10000 := fun z hz => by
            obtain ⟨p, hp, rfl⟩ := List.mem_map.1 hz
            have := cutC_mem 32 _ p hp
            rw [mkB_size]
            have h2 : y.data.toList.length = y.size := by simp
            omega
          have HY := Lib.hid (show okB y = (cutB 32 y).all (fun z => (wholeF z.data.toList).2) ∧ rowB y = (cutB 32 y).map (fun z => (wholeF z.data.toList).1) from ⟨rfl, rfl⟩)
          generalize cutB 32 y = pw at *
          obtain ⟨al, hal⟩ : ∃ al, pw.map (fun z => (wholeF z.data.toList).1) = al := ⟨_, rfl⟩
          have HAL := Lib.hid (show al.length = pw.length ∧ ∀ k z, pw[k]? = some z → al.take (k + 1) = al.take k ++ [(wholeF z.data.toList).1] from ⟨by rw [← hal, List.length_map], fun k z hz => by
            have e : al[k]? = some (wholeF z.data.toList).1 := by rw [← hal, List.getElem?_map, hz]; rfl
            rw [List.take_add_one, e]; rfl⟩)
          rw [hal] at HY
          clear hal
          have c1 : (q : Int) < (lw.length : Int) - 1 := by omega
          have c2 : (q : Int) < lw.length := by omega
          have HQ := Lib.hid hq
          have HJ := Lib.hid hlt
          clear hy hy2 hokj hRR HML hml hq hlt
          go_wp2_with (go_at_call 22; refine (hC2 _).mono ?_; rintro e w6 ⟨v6, rfl, ho6, hx6⟩; obtain ⟨g6, c6, rfl, hg61, hg62, hg63, hg64⟩ := OwnG.tight ho6 (by omega))
          have HO6 := Lib.hid ho6
          clear ho6 kc hC2
          go_loopw [7, 11, 12] (fun t7 t11 t12 wz => RPI pw al okj w6 t7 t11 t12 wz) (fun _ _ i _ => pw.length - (intOf i).toNat)
          case atStart => exact ⟨0, by omega, rfl, by simp, World.ownsRow_nil _ _ _ _, Ext.refl _⟩
          case round =>
            obtain ⟨k, hk1, rfl, rfl, hown, hx7⟩ := hrel
            have d1 : IntKind.i64.wrap ((k : Int) + 1) = (k : Int) + 1 := IntWalk.i64_in _ ⟨by omega, by omega⟩
            obtain ⟨okk, hokk⟩ : ∃ okk, (okj && (pw.take k).all fun z => (wholeF z.data.toList).2) = okk := ⟨_, rfl⟩
            rw [hokk]
            by_cases hkl : k < pw.length
            · obtain ⟨z, hz⟩ : ∃ z, pw[k]? = some z := ⟨pw[k], List.getElem?_eq_getElem hkl⟩
              have zc := hx7.cell (OwnG.cell1 (fun _ => rfl) HO6.out rfl k _ (.string z) hz rfl)
              have hWz := fun W => rwhole_any z (by have := hzz z (List.mem_of_getElem? hz); omega) W
              have HZ := Lib.hid (show (okj && (pw.take (k + 1)).all fun z => (wholeF z.data.toList).2) = (okk && (wholeF z.data.toList).2) ∧ al.take (k + 1) = al.take k ++ [(wholeF z.data.toList).1] from ⟨by rw [take_all_succ pw _ k z hz, ← hokk, Bool.and_assoc], HAL.out.2 k z hz⟩)
              obtain ⟨rz, hrz⟩ : ∃ rz, wholeF z.data.toList = rz := ⟨_, rfl⟩
              rw [hrz] at HZ hWz
              obtain ⟨x, is⟩ := rz
              simp only at hWz
              have d2 : (k : Int) < pw.length := by omega
              have HO := Lib.hid hown
              obtain ⟨i0, hi0, hz0', hz1', hz2'⟩ := info_parts infoI
              clear hown hz hrz hokk hzz
              cases okk with
              | true =>
                go_wp2_with (first
                  | (go_at_call 23; refine (hWz _).mono ?_; rintro e w8 ⟨rfl, rfl⟩)
                  | (at_builtin; refine wpList_append_own _ rfl _ _ 31 rfl w6.heap.size 3 i0 (.int .i64 0) 1 8 Tryd.underlying31 hi0 hz0' hz1' hz2' rfl (by decide) _ _ _ rfl (rowExt HO.out ((Ext.refl _).alloc _)) ⟨_, 0, none⟩ 1 1 [.int .i64 x] rfl rfl (cell_one _ _ (World.cell?_alloc_mark _ _ _ _ 0) rfl) ?sa1 ?sa2 ?sa3 ?sa4 ?_))
                case sa1 => intro u hu; simp at hu; subst hu; rfl
                case sa2 => unfold maxLen; omega
                case sa3 => omega
                case sa4 => have := hx7.size; simp; omega
                intro v' w9 hown' hg9 _
                have hx10 : Ext w6 w9 := Below.grown (hx7.alloc _) hg9 (hx7.alloc _).size (fun p hp => by have := (HO.out.lt p hp).1; omega)
                go_wp2
                go_roundw
                case rel => exact ⟨k + 1, by omega, by go_num, by rw [HZ.out.1]; simp, by rw [HZ.out.2]; unfold intVs; rw [List.map_append]; exact hown', hx10⟩
                case measure => simp [intOf, d1]; omega
              | false =>
                go_wp2_with (first
                  | (go_at_call 23; refine (hWz _).mono ?_; rintro e w8 ⟨rfl, rfl⟩)
                  | (at_builtin; refine wpList_append_own _ rfl _ _ 31 rfl w6.heap.size 3 i0 (.int .i64 0) 1 8 Tryd.underlying31 hi0 hz0' hz1' hz2' rfl (by decide) _ _ _ rfl (rowExt HO.out ((Ext.refl _).alloc _)) ⟨_, 0, none⟩ 1 1 [.int .i64 x] rfl rfl (cell_one _ _ (World.cell?_alloc_mark _ _ _ _ 0) rfl) ?sb1 ?sb2 ?sb3 ?sb4 ?_))
                case sb1 => intro u hu; simp at hu; subst hu; rfl
                case sb2 => unfold maxLen; omega
                case sb3 => omega
                case sb4 => have := hx7.size; simp; omega
                intro v' w9 hown' hg9 _
                have hx10 : Ext w6 w9 := Below.grown (hx7.alloc _) hg9 (hx7.alloc _).size (fun p hp => by have := (HO.out.lt p hp).1; omega)
                go_wp2
                go_roundw
                case rel => exact ⟨k + 1, by omega, by go_num, by rw [HZ.out.1]; simp, by rw [HZ.out.2]; unfold intVs; rw [List.map_append]; exact hown', hx10⟩
                case measure => simp [intOf, d1]; omega
            · obtain rfl : k = pw.length := by omega
              rw [List.take_length] at hokk
              have hal0 := HAL.out.1
              rw [List.take_of_length_le (by omega), ← hal0] at hown
              have halne : al ≠ [] := fun e => by rw [e] at hal0; simp at hal0; omega
              obtain ⟨gl, cl, rfl, hTB⟩ := TightB.of hown halne
              have hIn := hTB.inB
              have hge := hIn.1
              have hge2 : gl ≥ w6.heap.size := hge
              have hx67 := hx6.trans hx7
              have z6 := hx6.size
              have z7 := hx7.size
              have z2 := hx2.size
              obtain ⟨v9, w9, hrun, hO9, hx9, hk9⟩ := app_one_c (w := w1) (base := w1.heap.size) (r := ⟨gl, cl, al⟩) (Nat.le_refl _) (by omega) (hx2.trans hx67) (hA.ext hx67) (hIn.down (by omega)) (fun z hz => by have := hA.lt hz; simp only; omega) (fun e => by have := (hA.out.lt _ e).2; simp only at this; omega) (by omega)
              obtain ⟨g9, c9, rfl⟩ := own_some hO9 (by simp)
              simp only at hrun
              have e9 : (RR ++ [(⟨gl, cl, al⟩ : Row)]).length = RR.length + 1 := by simp
              rw [e9] at hO9 hrun
              have HK := Lib.hid (show okk = (okj && okB y) by rw [← hokk, HY.out.1])
              have HA := Lib.hid hA
              clear e9 hal0 hokk hown hTB hIn hA
              rw [show (RR.map Row.l : List (List Int)) = RR.map Row.l from rfl] at HN
              have hnq : ¬ ((pw.length : Nat) : Int) < pw.length := by omega
              go_wp2_with (at_builtin; refine Lib.wpList_append_run _ rfl _ _ _ _ rfl _ _ rfl rfl _ _ hrun ?_)
              go_roundw
              case rel => exact ⟨j + 1, q + 1, RR ++ [⟨gl, cl, al⟩], HJ.out, by rw [HQ.out], by go_num, by rw [HN.out.1, HK.out], hO9, by rw [HN.out.2, List.map_append, HY.out.2]; rfl, hx9⟩
              case measure => simp [intOf]; omega
        · obtain rfl : j = ml.length := by omega
          rw [List.take_length] at hokj hRR
          have c1 : ¬ (q : Int) < (lw.length : Int) - 1 := by omega
          obtain ⟨P, cap, Q, C, rfl, hS⟩ := hA.read
          have hlm : (RR.map Row.l).length = RR.length := List.length_map _
          have hF := fun W' (hw : Ext _ W') => rfmt_any b P cap Q C (RR.map Row.l) W' (hS.ext hw)
          have hHR := HRR.out
          rw [hokj, ← hRR] at hHR
          simp only [hlm] at hF
          clear hq hml HML hsz HRR hRR hokj hl0
          cases okj with
          | false =>
            rw [if_pos (.inl rfl)] at hHR
            subst hHR
            go_wp2
            go_ret3
            exact ⟨none, 0, fun _ => none, fun _ => 0, rfl, SlA.empty none 0 (by omega) (fun _ => none) (fun _ => 0), hx1.trans hx2⟩
          | true =>
            by_cases hm : fmtA b (RR.map Row.l) = t.data.toList
            · rw [if_neg (by rintro (h | h); cases h; exact h hm)] at hHR
              subst hHR
              have e1 : mkB (fmtA b (RR.map Row.l)) = t := by rw [hm]; rfl
              rw [e1] at hF
              have ht2 : (t.toList != t.toList) = false := by simp
              have HS := Lib.hid hS
              clear hm e1 hA hS
              go_wp2_with (go_at_call 7; refine (hF _ (Ext.refl _)).mono ?_; rintro e W6 ⟨rfl, hx6⟩)
              go_ret3
              exact ⟨P, cap, Q, C, by simp only [hlm]; rfl, HS.out.ext hx6, hx1.trans (hx2.trans hx6)⟩
            · rw [if_pos (.inr hm)] at hHR
              subst hHR
              have ht4 : ¬ (mkB (fmtA b (RR.map Row.l))).toList = t.toList := by rw [Lib.toList_data, Lib.toList_data, mkB_toList]; exact hm
              have ht3 : ((mkB (fmtA b (RR.map Row.l))).toList == t.toList) = false := by simpa using ht4
              have ht2 : ((mkB (fmtA b (RR.map Row.l))).toList != t.toList) = true := by simpa using ht4
              have ht5 : ¬ mkB (fmtA b (RR.map Row.l)) = t := fun e => ht4 (by rw [e])
              have ht6 : decide ((mkB (fmtA b (RR.map Row.l))).toList = t.toList) = false := decide_eq_false ht4
              generalize mkB (fmtA b (RR.map Row.l)) = FF at *
              clear hm hA hS
              go_wp2_with (go_at_call 7; refine (hF _ (Ext.refl _)).mono ?_; rintro e W6 ⟨rfl, hx6⟩)
              go_ret3
              exact ⟨none, 0, fun _ => none, fun _ => 0, rfl, SlA.empty none 0 (by omega) (fun _ => none) (fun _ => 0), hx1.trans (hx2.trans hx6)⟩
    · rw [if_pos (.inr hp)]
      have ht4 : ¬ (mkB (l0.data.toList.take 2)).toList = (⟨#[98, 32]⟩ : ByteArray).toList := by rw [l98, Lib.toList_data, mkB_toList]; exact hp
      have ht3 : ((mkB (l0.data.toList.take 2)).toList == (⟨#[98, 32]⟩ : ByteArray).toList) = false := by simpa using ht4
      have ht2 : ((mkB (l0.data.toList.take 2)).toList != (⟨#[98, 32]⟩ : ByteArray).toList) = true := by simpa using ht4
      rw [l98] at ht4
      have ht5 : ((mkB (l0.data.toList.take 2)).toList == [98, 32]) = false := by simpa using ht4
      have ht7 : ((mkB (l0.data.toList.take 2)).toList != [98, 32]) = true := by simpa using ht4
      have ht6 : ¬ mkB (l0.data.toList.take 2) = ⟨#[98, 32]⟩ := fun e => ht4 (by rw [e, l98])
      generalize mkB (l0.data.toList.take 2) = FF at *
      clear hp hml HML hsz h3 hl0l l98
      go_enter Tryd.func10, Tryd.ntmps10
      go_wp2_with (go_at_call 22; refine hC.mono ?_; rintro e w1 ⟨v1, rfl, ho1, hx1⟩; obtain ⟨g, cw, rfl, hg1, hg2, hg3, hg4⟩ := OwnG.tight ho1 (by omega); have k0 := OwnG.cell1 (fun _ => rfl) ho1 rfl 0 _ (.string l0) hl0 rfl)
      go_ret3
      exact ⟨none, 0, fun _ => none, fun _ => 0, rfl, SlA.empty none 0 (by omega) (fun _ => none) (fun _ => 0), hx1⟩
end Go.Proofs.YtgdbhmdhonnmgaaDoor
