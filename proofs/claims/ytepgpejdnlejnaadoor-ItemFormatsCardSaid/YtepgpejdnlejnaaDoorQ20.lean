/- ItZC; TxF; TxJ; TxG (merged by group.py) -/
import Derived.Test.YtepgpejdnlejnaaDoorQ19
import Derived.Deep.LoopGhost
import Derived.Test.YtepgpejdnlejnaaDoorQ03
import Derived.Test.YtepgpejdnlejnaaDoorQ15
namespace Go.Proofs.YtepgpejdnlejnaaDoor
section
open Go.RowKit
set_option linter.unusedVariables false
set_option linter.unusedSimpArgs false
set_option linter.unusedSectionVars false
set_option maxRecDepth 100000
attribute [local go_sem] Oper.semAt_some

/-- the first items, written -/
def fmtK (l : List It) (k : Nat) : List UInt8 := Lib.join ((l.take k).map fun x => itemT (toI x)) [59, 32]
theorem fmtK_succ {l : List It} {k : Nat} (hk : k < l.length) : fmtK l (k + 1) = if k = 0 then itemT (toI (nthT l k)) else fmtK l k ++ [59, 32] ++ itemT (toI (nthT l k)) := by
  unfold fmtK
  rw [List.take_add_one, nthT_some hk, List.map_append]
  simp only [Option.toList_some, List.map_cons, List.map_nil]
  rw [join_snoc]
  by_cases h : k = 0
  · subst h
    simp
  · rw [if_neg h, if_neg]
    intro e
    have := congrArg List.length e
    rw [List.length_map, List.length_take, List.length_nil] at this
    omega
theorem fmtK_le {l : List It} (hall : ∀ x ∈ l, itemB x = true) (k : Nat) (hk : k ≤ l.length) : (fmtK l k).length ≤ k * 82 := by
  have := join_le [59, 32] 80 ((l.take k).map fun x => itemT (toI x)) (by
    intro x hx
    obtain ⟨y, hy, rfl⟩ := List.mem_map.1 hx
    exact itemS_le (hall y (List.mem_of_mem_take hy)))
  rw [List.length_map, List.length_take, Nat.min_eq_left hk] at this
  exact this
theorem itemS_intL (X : ByteArray) {x : It} (h : x.2.1 = 1) : ((((X ++ x.1) ++ ⟨#[32, 105, 110, 116, 32]⟩) ++ mkB (Lib.itoa x.2.2.1)) ++ ⟨#[32]⟩) ++ mkB (Lib.itoa x.2.2.2.1) = X ++ itemS x := by
  rw [← itemS_int h]
  apply ByteArray.ext
  apply Array.ext'
  simp [mkB]
theorem itemS_textL (X : ByteArray) {x : It} (h : ¬ x.2.1 = 1) : ((X ++ x.1) ++ ⟨#[32, 116, 101, 120, 116, 32]⟩) ++ mkB (Lib.itoa x.2.2.2.2) = X ++ itemS x := by
  rw [← itemS_text h]
  apply ByteArray.ext
  apply Array.ext'
  simp [mkB]
set_option maxHeartbeats 8000000 in
theorem rformat_any (P : Option Addr) (cap : Nat) (l : List It) (w : World) (h : SlT w P cap l) :
    Calls Tryd.prog 49 #[.slice P l.length cap] w fun e w' => e = .returned (.string (mkB (fmtL l))) ∧ Ext w w' := by
  have hlen := h.len
  have hR := ritems_any P cap l w h
  cases hr : itemsB l with
  | false =>
    have HB := Lib.hid (show fmtL l = [] from by simp [fmtL, hr])
    simp only [hr] at hR
    clear hr
    go_enter Tryd.func49, Tryd.ntmps49
    go_wp2_with (go_at_call 21; refine hR.mono ?_; rintro e w1 ⟨rfl, hx1⟩)
    go_ret
    exact ⟨by rw [HB.out]; rfl, hx1⟩
  | true =>
    have HB := Lib.hid (show fmtL l = fmtK l l.length from by simp [fmtL, hr, fmtK])
    simp only [hr] at hR
    obtain ⟨h8, hall⟩ := item_all hr
    clear hr
    go_enter Tryd.func49, Tryd.ntmps49
    go_wp2_with (go_at_call 21; refine hR.mono ?_; rintro e w1 ⟨rfl, hx1⟩)
    go_loopw [4, 3] (fun i v wr => ∃ k : Nat, k ≤ l.length ∧ i = .int .i64 k ∧ v = .string (mkB (fmtK l k)) ∧ Ext w wr) (fun i _ _ => l.length - (intOf i).toNat)
    case atStart => exact ⟨0, by omega, rfl, rfl, hx1⟩
    case round =>
      obtain ⟨k, hk, rfl, rfl, hx⟩ := hrel
      by_cases hlt : k < l.length
      · obtain ⟨b, off, hP, g0, g1, g2, g3, g4⟩ := h.itemAt k hlt
        subst hP
        have g0 := hx.cell g0
        have g1 := hx.cell g1
        have g2 := hx.cell g2
        have g3 := hx.cell g3
        have g4 := hx.cell g4
        have c1 : (k : Int) < l.length := by omega
        have d1 : IntKind.i64.wrap ((k : Int) + 1) = (k : Int) + 1 := IntWalk.i64_in _ ⟨by omega, by omega⟩
        have hv := item_num (hall _ (nthT_mem hlt))
        have hkl := fmtK_le hall k hk
        have hS := fmtK_succ hlt
        have hXs : (mkB (fmtK l k)).size ≤ 1000 := by rw [mkB_size]; omega
        have hX0 : k = 0 → mkB (fmtK l k) = ⟨#[]⟩ := fun e => by subst e; rfl
        have hY : ∀ X : ByteArray, (k = 0 → X = ⟨#[]⟩) → (k ≠ 0 → X = mkB (fmtK l k) ++ ⟨#[59, 32]⟩) → X ++ itemS (nthT l k) = mkB (fmtK l (k + 1)) := by
          intro X h1 h2
          rw [hS]
          by_cases e : k = 0
          · rw [if_pos e, h1 e]
            apply ByteArray.ext
            apply Array.ext'
            simp [itemS, mkB]
          · rw [if_neg e, h2 e]
            apply ByteArray.ext
            apply Array.ext'
            simp [itemS, mkB]
        obtain ⟨X, hX⟩ : ∃ X, mkB (fmtK l k) = X := ⟨_, rfl⟩
        obtain ⟨N, hN⟩ : ∃ N, mkB (fmtK l (k + 1)) = N := ⟨_, rfl⟩
        obtain ⟨x, hx0⟩ : ∃ x, nthT l k = x := ⟨_, rfl⟩
        rw [hX] at hXs hX0 hY
        rw [hN, hx0] at hY
        rw [hX]
        rw [hx0] at g0 g1 g2 g3 g4 hv
        have HN := Lib.hid hN
        clear hS hkl hX hN hx0
        obtain ⟨nm, kd, lo, hi, ln⟩ := x
        simp only at g0 g1 g2 g3 g4 hv
        obtain ⟨v1, v2, v3, v4⟩ := hv
        have b1 := itoaB_le lo (by omega) (by omega)
        have b2 := itoaB_le hi (by omega) (by omega)
        have b3 := itoaB_le ln (by omega) (by omega)
        have hD1 := fun W => rdec_any lo (by omega) (by omega) W
        have hD2 := fun W => rdec_any hi (by omega) (by omega) W
        have hD3 := fun W => rdec_any ln (by omega) (by omega) W
        have em : ∀ n, (⟨(Lib.itoa n).toArray⟩ : ByteArray) = mkB (Lib.itoa n) := fun _ => rfl
        rw [em] at hD1 hD2 hD3
        have hI := fun (Z : ByteArray) (e : kd = 1) => itemS_intL Z (x := (nm, kd, lo, hi, ln)) e
        have hJ := fun (Z : ByteArray) (e : ¬ kd = 1) => itemS_textL Z (x := (nm, kd, lo, hi, ln)) e
        simp only at hI hJ
        obtain ⟨I1, hi1⟩ : ∃ I, mkB (Lib.itoa lo) = I := ⟨_, rfl⟩
        obtain ⟨I2, hi2⟩ : ∃ I, mkB (Lib.itoa hi) = I := ⟨_, rfl⟩
        obtain ⟨I3, hi3⟩ : ∃ I, mkB (Lib.itoa ln) = I := ⟨_, rfl⟩
        rw [hi1] at b1 hD1
        rw [hi2] at b2 hD2
        rw [hi3] at b3 hD3
        simp only [hi1, hi2] at hI
        simp only [hi3] at hJ
        have hq : ∀ (c : Int) (W : World) (m : Nat) (r : ByteArray), ((c = lo ∧ r = I1) ∨ (c = hi ∧ r = I2) ∨ (c = ln ∧ r = I3)) → Calls Tryd.prog 83 #[.int .i64 c] (W.drewN m) fun e w' => e = .returned (.string r) ∧ ∃ m, w' = W.drewN m := by
          rintro c W m r (⟨rfl, rfl⟩ | ⟨rfl, rfl⟩ | ⟨rfl, rfl⟩)
          · exact (hD1 _).mono fun e w' ⟨he, hw⟩ => ⟨he, m, hw.symm⟩
          · exact (hD2 _).mono fun e w' ⟨he, hw⟩ => ⟨he, m, hw.symm⟩
          · exact (hD3 _).mono fun e w' ⟨he, hw⟩ => ⟨he, m, hw.symm⟩
        clear em hi1 hi2 hi3 v2 v3 v4 hD1 hD2 hD3
        by_cases hk0 : k = 0
        · have hX1 := hX0 hk0
          have hYX := hY X (fun _ => hX1) (fun e => absurd hk0 e)
          have c2 : ¬ (0 : Int) < k := by omega
          have hZs : X.size ≤ 1002 := by omega
          clear hk0 hX1 hX0 hY hXs
          by_cases hk1 : kd = 1
          · have hE := hI X hk1
            rw [hYX] at hE
            subst hk1
            have z0 : ¬ 9223372036854775807 < X.size + nm.size := by omega
            have z1 : ¬ 9223372036854775807 < X.size + nm.size + 5 := by omega
            have z2 : ¬ 9223372036854775807 < X.size + nm.size + 5 + I1.size := by omega
            have z3 : ¬ 9223372036854775807 < X.size + nm.size + 5 + I1.size + 1 := by omega
            have z4 : ¬ 9223372036854775807 < X.size + nm.size + 5 + I1.size + 1 + I2.size := by omega
            clear hYX hI hJ hZs b1 b2 b3 v1
            go_wp2
            go_quiet ((go_at_call 83; exact hq _ _ _ _ (by first | exact .inl ⟨rfl, rfl⟩ | exact .inr (.inl ⟨rfl, rfl⟩))))
            go_wp2
            go_roundw
            case rel => exact ⟨k + 1, by omega, by go_num, by first | rw [HN.out] | rw [HN.out, hE], hx.drewN _⟩
            case measure => simp [intOf]; omega
          · have hE := hJ X hk1
            rw [hYX] at hE
            have nk : (kd == 1) = false := by simpa using hk1
            have z0 : ¬ 9223372036854775807 < X.size + nm.size := by omega
            have z1 : ¬ 9223372036854775807 < X.size + nm.size + 6 := by omega
            have z2 : ¬ 9223372036854775807 < X.size + nm.size + 6 + I3.size := by omega
            clear hYX hI hJ hZs b1 b2 b3 v1 hk1
            go_wp2
            go_quiet ((go_at_call 83; exact hq _ _ _ _ (by exact .inr (.inr ⟨rfl, rfl⟩))))
            go_wp2
            go_roundw
            case rel => exact ⟨k + 1, by omega, by go_num, by first | rw [HN.out] | rw [HN.out, hE], hx.drewN _⟩
            case measure => simp [intOf]; omega
        · have hZ0 := hY (X ++ ⟨#[59, 32]⟩) (fun e => absurd e hk0) (fun _ => rfl)
          have c2 : (0 : Int) < k := by omega
          have hl0 : ¬ 9223372036854775807 < X.size + 2 := by omega
          obtain ⟨Z, hZ⟩ : ∃ Z, X ++ ⟨#[59, 32]⟩ = Z := ⟨_, rfl⟩
          have hZs : Z.size ≤ 1002 := by
            rw [← hZ, ByteArray.size_append]
            show X.size + 2 ≤ 1002
            omega
          rw [hZ] at hZ0
          have hYX := hZ0
          clear hk0 hX0 hY hXs hZ0
          by_cases hk1 : kd = 1
          · have hE := hI Z hk1
            rw [hYX] at hE
            subst hk1
            have z0 : ¬ 9223372036854775807 < Z.size + nm.size := by omega
            have z1 : ¬ 9223372036854775807 < Z.size + nm.size + 5 := by omega
            have z2 : ¬ 9223372036854775807 < Z.size + nm.size + 5 + I1.size := by omega
            have z3 : ¬ 9223372036854775807 < Z.size + nm.size + 5 + I1.size + 1 := by omega
            have z4 : ¬ 9223372036854775807 < Z.size + nm.size + 5 + I1.size + 1 + I2.size := by omega
            clear hYX hI hJ hZs b1 b2 b3 v1
            go_wp2
            go_quiet ((go_at_call 83; exact hq _ _ _ _ (by first | exact .inl ⟨rfl, rfl⟩ | exact .inr (.inl ⟨rfl, rfl⟩))))
            go_wp2
            go_roundw
            case rel => exact ⟨k + 1, by omega, by go_num, by first | rw [HN.out] | rw [HN.out, hE], hx.drewN _⟩
            case measure => simp [intOf]; omega
          · have hE := hJ Z hk1
            rw [hYX] at hE
            have nk : (kd == 1) = false := by simpa using hk1
            have z0 : ¬ 9223372036854775807 < Z.size + nm.size := by omega
            have z1 : ¬ 9223372036854775807 < Z.size + nm.size + 6 := by omega
            have z2 : ¬ 9223372036854775807 < Z.size + nm.size + 6 + I3.size := by omega
            clear hYX hI hJ hZs b1 b2 b3 v1 hk1
            go_wp2
            go_quiet ((go_at_call 83; exact hq _ _ _ _ (by exact .inr (.inr ⟨rfl, rfl⟩))))
            go_wp2
            go_roundw
            case rel => exact ⟨k + 1, by omega, by go_num, by first | rw [HN.out] | rw [HN.out, hE], hx.drewN _⟩
            case measure => simp [intOf]; omega
      · obtain rfl : k = l.length := by omega
        go_wp2
        go_ret
        exact ⟨by rw [HB.out]; rfl, hx⟩
end
section
open Go.RowKit Go.Maps
set_option linter.unusedVariables false
set_option linter.unusedSimpArgs false
set_option linter.unusedSectionVars false
set_option maxRecDepth 20000
attribute [local go_sem] Oper.semAt_some

/-- where the cutting stands: the pieces before from are cut, no c from there up to i -/
structure CutRel (c : UInt8) (s : ByteArray) (i f : Nat) (out : List ByteArray) : Prop where
  le : f ≤ i
  size : i ≤ s.size
  no : c ∉ (s.data.toList.take i).drop f
  out : cutB c s = out ++ (cutC c (s.data.toList.drop f)).map mkB
theorem CutRel.start (c : UInt8) (s : ByteArray) : CutRel c s 0 0 [] := ⟨Nat.le_refl _, Nat.zero_le _, by simp, by simp [cutB]⟩
theorem piece_snoc (s : ByteArray) (i f : Nat) (h1 : f ≤ i) (h2 : i < s.size) : (s.data.toList.take (i + 1)).drop f = (s.data.toList.take i).drop f ++ [byteU s i] := by
  have hl : i < s.data.toList.length := by simpa using h2
  rw [List.take_add_one, List.drop_append_of_le_length (by rw [List.length_take]; omega), byteU, List.getD_eq_getElem?_getD, List.getElem?_eq_getElem hl]
  rfl
theorem drop_split (s : ByteArray) (i f : Nat) (h1 : f ≤ i) (h2 : i < s.size) : s.data.toList.drop f = (s.data.toList.take i).drop f ++ byteU s i :: s.data.toList.drop (i + 1) := by
  rw [← byteU_drop s i h2]
  have hl : i ≤ s.data.toList.length := by have : s.data.toList.length = s.size := by simp
                                           omega
  conv => lhs; rw [← List.take_append_drop i s.data.toList]
  rw [List.drop_append_of_le_length (by rw [List.length_take]; omega)]
theorem CutRel.miss {c : UInt8} {s : ByteArray} {i f : Nat} {out : List ByteArray} (h : CutRel c s i f out) (hi : i < s.size) (hc : byteU s i ≠ c) : CutRel c s (i + 1) f out :=
  ⟨by have := h.le; omega, hi, by rw [piece_snoc s i f h.le hi, List.mem_append]; rintro (h1 | h1); exact h.no h1; simp at h1; exact hc h1.symm, h.out⟩
theorem CutRel.hit {c : UInt8} {s : ByteArray} {i f : Nat} {out : List ByteArray} (h : CutRel c s i f out) (hi : i < s.size) (hc : byteU s i = c) : CutRel c s (i + 1) (i + 1) (out ++ [mkB ((s.data.toList.take i).drop f)]) :=
  ⟨Nat.le_refl _, hi, by simp, by
    rw [h.out, drop_split s i f h.le hi, hc, cutC_app c _ _ h.no, List.append_assoc]
    rfl⟩
theorem CutRel.done {c : UInt8} {s : ByteArray} {i f : Nat} {out : List ByteArray} (h : CutRel c s i f out) (hi : i = s.size) : cutB c s = out ++ [mkB (s.data.toList.drop f)] := by
  have e : (s.data.toList.take i).drop f = s.data.toList.drop f := by rw [List.take_of_length_le (by simp [hi])]
  have := h.no
  rw [e] at this
  rw [h.out, cutC_none c _ this]
  rfl
theorem CutRel.len {c : UInt8} {s : ByteArray} {i f : Nat} {out : List ByteArray} (h : CutRel c s i f out) : out.length ≤ s.size := by
  have h1 := cutB_size c s
  rw [h.out, List.length_append, List.length_map] at h1
  have : 1 ≤ (cutC c (s.data.toList.drop f)).length := by
    cases hh : cutC c (s.data.toList.drop f) with
    | nil => exact absurd hh (cutC_ne _ _)
    | cons a l => simp
  omega
def CutR (c : UInt8) (s : ByteArray) (w : World) (v f i : Value) (wr : World) : Prop :=
  ∃ (k q : Nat) (out : List ByteArray), i = .int .i64 k ∧ f = .int .i64 q ∧ OwnS wr w.heap.size v out ∧ CutRel c s k q out ∧ Ext w wr
set_option maxHeartbeats 4000000 in
theorem rcut_any (s : ByteArray) (c : UInt8) (hs : s.size ≤ 1000000) (w : World) :
    Calls Tryd.prog 87 #[.string s, .string ⟨#[c]⟩] w fun e w' => ∃ v, e = .returned v ∧ OwnS w' w.heap.size v (cutB c s) ∧ Ext w w' := by
  go_enter Tryd.func87, Tryd.ntmps87
  go_wp2
  go_loopw [5, 6, 7] (fun v f i wr => CutR c s w v f i wr) (fun _ _ i _ => s.size - (intOf i).toNat)
  case atStart => exact ⟨0, 0, [], rfl, rfl, OwnG.nil _ _ _ _ _, CutRel.start c s, Ext.refl w⟩
  case round =>
    obtain ⟨k, q, out, rfl, rfl, hown, hrel, hx⟩ := hrel
    have d1 : IntKind.i64.wrap ((k : Int) + 1) = (k : Int) + 1 := IntWalk.i64_in _ ⟨by have := hrel.size; omega, by have := hrel.size; omega⟩
    by_cases hlt : k < s.size
    · have c1 : (k : Int) + 1 ≤ s.size := by omega
      have hsl := fun w => str_one s k hlt w
      obtain ⟨Y, hY⟩ : ∃ Y, (⟨#[c]⟩ : ByteArray) = Y := ⟨_, rfl⟩
      have y1 : Y.size = 1 := by rw [← hY]; rfl
      by_cases hc : byteU s k = c
      · have HN := Lib.hid (hrel.hit hlt hc)
        have hln := hrel.len
        have hm := fun w => str_mid s q k hrel.le hrel.size w
        rw [hc, hY] at hsl
        rw [hY]
        clear hrel hc hY
        generalize mkB ((s.data.toList.take k).drop q) = X at *
        have HO := Lib.hid hown
        clear hown
        go_wp2_with (at_builtin; refine wpList_app_G _ elemS rfl _ _ rfl (base := w.heap.size) rfl (HO.out.ext ((Ext.refl _).alloc _)) (m := [X]) rfl (SlG.one elemS.hk _ ?c1 ?c2) ?c3 ?c4 ?c5 ?c6 ?_)
        case c1 => rfl
        all_goals first
          | (intro e; cases e; done)
          | (have := hln; have := hx.size; omega; done)
          | (have := hln; have := hx.size; simp; omega; done)
          | skip
        intro v' w3 hown' hbl
        have hx3 : Ext w w3 := below_ext (hx.alloc _) hbl (Nat.le_refl _)
        go_wp2
        go_roundw
        case rel => exact ⟨k + 1, k + 1, out ++ [X], by go_num, by go_num, hown', HN.out, hx3⟩
        case measure => simp [intOf, d1]; omega
      · have HN := Lib.hid (hrel.miss hlt hc)
        have hne := one_ne hc
        rw [hY] at hne
        rw [hY]
        generalize (⟨#[byteU s k]⟩ : ByteArray) = X at *
        clear hrel hc hY
        go_wp2
        go_roundw
        case rel => exact ⟨k + 1, q, out, by go_num, rfl, hown, HN.out, hx⟩
        case measure => simp [intOf, d1]; omega
    · obtain rfl : k = s.size := by have := hrel.size; omega
      have c1 : ¬ (s.size : Int) + 1 ≤ s.size := by omega
      have HN := Lib.hid (hrel.done rfl)
      have hln := hrel.len
      have hm := fun w => str_from s q (Nat.le_trans hrel.le hrel.size) w
      obtain ⟨Y, hY⟩ : ∃ Y, (⟨#[c]⟩ : ByteArray) = Y := ⟨_, rfl⟩
      have y1 : Y.size = 1 := by rw [← hY]; rfl
      rw [hY]
      clear hrel hY
      generalize mkB (s.data.toList.drop q) = X at *
      have HO := Lib.hid hown
      clear hown
      go_wp2_with (at_builtin; refine wpList_app_G _ elemS rfl _ _ rfl (base := w.heap.size) rfl (HO.out.ext ((Ext.refl _).alloc _)) (m := [X]) rfl (SlG.one elemS.hk _ ?k1 ?k2) ?k3 ?k4 ?k5 ?k6 ?_)
      case k1 => rfl
      all_goals first
        | (intro e; cases e; done)
        | (have := hln; have := hx.size; omega; done)
        | (have := hln; have := hx.size; simp; omega; done)
        | skip
      intro v' w3 hown' hbl
      have hx3 : Ext w w3 := below_ext (hx.alloc _) hbl (Nat.le_refl _)
      go_wp2
      go_ret
      exact ⟨v', rfl, by rw [HN.out]; exact hown', hx3⟩
end
section
open Go.RowKit Go.Maps
set_option linter.unusedVariables false
set_option linter.unusedSimpArgs false
set_option linter.unusedSectionVars false
set_option maxRecDepth 20000
attribute [local go_sem] Oper.semAt_some

def pend (p : List UInt8) : List (List UInt8) → List (List UInt8)
  | [] => [p]
  | q :: r => (p ++ q) :: r
theorem pend_hdc (p : List UInt8) (x : UInt8) (l : List (List UInt8)) (h : l ≠ []) : pend p (hdc x l) = pend (p ++ [x]) l := by
  cases l with
  | nil => exact absurd rfl h
  | cons a l => simp [hdc, pend]
theorem pend_nil (l : List (List UInt8)) (h : l ≠ []) : pend [] l = l := by
  cases l with
  | nil => exact absurd rfl h
  | cons a l => rfl
theorem cutS_short (t : List UInt8) (h : t.length ≤ 1) : cutS t = [t] := by
  match t, h with
  | [], _ => rw [cutS]
  | [x], _ => rw [cutS_cons x [] (fun e => by simp at e), cutS]; rfl
theorem cutS_len : ∀ (n : Nat) (t : List UInt8), t.length ≤ n → (cutS t).length ≤ t.length + 1
  | _, [], _ => by rw [cutS]; simp
  | 0, x :: r, h => by simp at h
  | n + 1, x :: r, h => by
    by_cases hc : x = 59 ∧ r.head? = some 32
    · obtain ⟨rfl, h2⟩ := hc
      cases r with
      | nil => simp at h2
      | cons y r =>
        simp only [List.head?_cons, Option.some.injEq] at h2
        subst h2
        have := cutS_len n r (by simp at h; omega)
        rw [cutS_sep]
        simp only [List.length_cons]
        omega
    · have := cutS_len n r (by simp at h; omega)
      rw [cutS_cons _ _ hc]
      cases hh : cutS r with
      | nil => simp [hdc]
      | cons a l => rw [hh] at this; simp [hdc] at *; omega
def cutSB (s : ByteArray) : List ByteArray := (cutS s.data.toList).map mkB
structure CutRel2 (s : ByteArray) (i f : Nat) (out : List ByteArray) : Prop where
  le : f ≤ i
  size : i ≤ s.size
  out : cutS s.data.toList = out.map (·.data.toList) ++ pend ((s.data.toList.take i).drop f) (cutS (s.data.toList.drop i))
theorem CutRel2.start (s : ByteArray) : CutRel2 s 0 0 [] := ⟨Nat.le_refl _, Nat.zero_le _, by simp [pend_nil _ (cutS_ne _)]⟩
theorem two_of (s : ByteArray) (i : Nat) (h : i + 2 ≤ s.size) : (s.data.toList.take (i + 2)).drop i = [byteU s i, byteU s (i + 1)] := by
  rw [piece_snoc s (i + 1) i (by omega) (by omega), piece_snoc s i i (Nat.le_refl _) (by omega)]
  simp
theorem CutRel2.miss {s : ByteArray} {i f : Nat} {out : List ByteArray} (h : CutRel2 s i f out) (hi : i + 2 ≤ s.size) (hc : ¬ (byteU s i = 59 ∧ byteU s (i + 1) = 32)) : CutRel2 s (i + 1) f out := by
  refine ⟨by have := h.le; omega, by omega, ?_⟩
  rw [h.out, byteU_drop s i (by omega), cutS_cons _ _ (fun e => hc ⟨e.1, by
    have := e.2
    rw [byteU_drop s (i + 1) (by omega)] at this
    simpa using this⟩), pend_hdc _ _ _ (cutS_ne _), ← piece_snoc s i f h.le (by omega)]
theorem CutRel2.hit {s : ByteArray} {i f : Nat} {out : List ByteArray} (h : CutRel2 s i f out) (hi : i + 2 ≤ s.size) (hc : byteU s i = 59 ∧ byteU s (i + 1) = 32) : CutRel2 s (i + 2) (i + 2) (out ++ [mkB ((s.data.toList.take i).drop f)]) := by
  refine ⟨Nat.le_refl _, hi, ?_⟩
  rw [h.out, byteU_drop s i (by omega), byteU_drop s (i + 1) (by omega), hc.1, hc.2, cutS_sep, List.map_append]
  have e : (s.data.toList.take (i + 2)).drop (i + 2) = [] := List.drop_eq_nil_of_le (by rw [List.length_take]; omega)
  rw [e, pend_nil _ (cutS_ne _)]
  simp [pend, mkB_toList]
theorem CutRel2.done {s : ByteArray} {i f : Nat} {out : List ByteArray} (h : CutRel2 s i f out) (hi : s.size < i + 2) : cutSB s = out ++ [mkB (s.data.toList.drop f)] := by
  have hl : s.data.toList.length = s.size := by simp
  unfold cutSB
  rw [h.out, cutS_short (s.data.toList.drop i) (by rw [List.length_drop]; omega)]
  have e : (s.data.toList.take i).drop f ++ s.data.toList.drop i = s.data.toList.drop f := by
    conv => rhs; rw [← List.take_append_drop i s.data.toList]
    rw [List.drop_append_of_le_length (by rw [List.length_take]; have := h.le; have := h.size; omega)]
  simp only [pend, e, List.map_append, List.map_map, List.map_cons, List.map_nil]
  congr 1
  exact List.map_id'' (fun x => rfl) _
theorem CutRel2.len {s : ByteArray} {i f : Nat} {out : List ByteArray} (h : CutRel2 s i f out) : out.length ≤ s.size := by
  have h1 := cutS_len _ s.data.toList (Nat.le_refl _)
  have hl : s.data.toList.length = s.size := by simp
  rw [h.out, List.length_append, List.length_map] at h1
  have : 1 ≤ (pend ((s.data.toList.take i).drop f) (cutS (s.data.toList.drop i))).length := by
    cases cutS (s.data.toList.drop i) <;> simp [pend]
  omega
def CutR2 (s : ByteArray) (w : World) (v f i : Value) (wr : World) : Prop :=
  ∃ (k q : Nat) (out : List ByteArray), i = .int .i64 k ∧ f = .int .i64 q ∧ OwnS wr w.heap.size v out ∧ CutRel2 s k q out ∧ Ext w wr
theorem two_eq (a b : UInt8) (h : a = 59 ∧ b = 32) : mkB [a, b] = ⟨#[59, 32]⟩ := by rw [h.1, h.2]; rfl
theorem two_ne {a b : UInt8} (h : ¬ (a = 59 ∧ b = 32)) : ((mkB [a, b]).toList == (⟨#[59, 32]⟩ : ByteArray).toList) = false := by
  rw [Lib.toList_data, Lib.toList_data, mkB_toList]
  have : ¬ [a, b] = ([59, 32] : List UInt8) := fun e => by
    injection e with e1 e2
    injection e2 with e2 _
    exact h ⟨e1, e2⟩
  simpa using this
set_option maxHeartbeats 4000000 in
theorem rcut2_any (s : ByteArray) (hs : s.size ≤ 1000000) (w : World) :
    Calls Tryd.prog 87 #[.string s, .string ⟨#[59, 32]⟩] w fun e w' => ∃ v, e = .returned v ∧ OwnS w' w.heap.size v (cutSB s) ∧ Ext w w' := by
  go_enter Tryd.func87, Tryd.ntmps87
  go_wp2
  go_loopw [5, 6, 7] (fun v f i wr => CutR2 s w v f i wr) (fun _ _ i _ => s.size - (intOf i).toNat)
  case atStart => exact ⟨0, 0, [], rfl, rfl, OwnG.nil _ _ _ _ _, CutRel2.start s, Ext.refl w⟩
  case round =>
    obtain ⟨k, q, out, rfl, rfl, hown, hrel, hx⟩ := hrel
    have d1 : IntKind.i64.wrap ((k : Int) + 1) = (k : Int) + 1 := IntWalk.i64_in _ ⟨by have := hrel.size; omega, by have := hrel.size; omega⟩
    have d2 : IntKind.i64.wrap ((k : Int) + 2) = (k : Int) + 2 := IntWalk.i64_in _ ⟨by have := hrel.size; omega, by have := hrel.size; omega⟩
    by_cases hlt : k + 2 ≤ s.size
    · have c1 : (k : Int) + 2 ≤ s.size := by omega
      have hsl := fun w => str_mid s k (k + 2) (by omega) hlt w
      rw [two_of s k hlt] at hsl
      simp only [show ((k + 2 : Nat) : Int) = (k : Int) + 2 from by omega] at hsl
      obtain ⟨Y, hY⟩ : ∃ Y, (⟨#[59, 32]⟩ : ByteArray) = Y := ⟨_, rfl⟩
      have y1 : Y.size = 2 := by rw [← hY]; rfl
      by_cases hc : byteU s k = 59 ∧ byteU s (k + 1) = 32
      · have HN := Lib.hid (hrel.hit hlt hc)
        have hln := hrel.len
        have hm := fun w => str_mid s q k hrel.le hrel.size w
        rw [two_eq _ _ hc, hY] at hsl
        rw [hY]
        clear hrel hc hY
        generalize mkB ((s.data.toList.take k).drop q) = X at *
        have HO := Lib.hid hown
        clear hown
        go_wp2_with (at_builtin; refine wpList_app_G _ elemS rfl _ _ rfl (base := w.heap.size) rfl (HO.out.ext ((Ext.refl _).alloc _)) (m := [X]) rfl (SlG.one elemS.hk _ ?c1 ?c2) ?c3 ?c4 ?c5 ?c6 ?_)
        case c1 => rfl
        all_goals first
          | (intro e; cases e; done)
          | (have := hln; have := hx.size; omega; done)
          | (have := hln; have := hx.size; simp; omega; done)
          | skip
        intro v' w3 hown' hbl
        have hx3 : Ext w w3 := below_ext (hx.alloc _) hbl (Nat.le_refl _)
        go_wp2
        go_roundw
        case rel => exact ⟨k + 2, k + 2, out ++ [X], by go_num, by go_num, hown', HN.out, hx3⟩
        case measure => simp [intOf, d2]; omega
      · have HN := Lib.hid (hrel.miss hlt hc)
        have hne := two_ne hc
        rw [hY] at hne
        rw [hY]
        generalize mkB [byteU s k, byteU s (k + 1)] = X at *
        clear hrel hc hY
        go_wp2
        go_roundw
        case rel => exact ⟨k + 1, q, out, by go_num, rfl, hown, HN.out, hx⟩
        case measure => simp [intOf, d1]; omega
    · have c1 : ¬ (k : Int) + 2 ≤ s.size := by omega
      have HN := Lib.hid (hrel.done (by omega))
      have hln := hrel.len
      have hm := fun w => str_from s q (Nat.le_trans hrel.le hrel.size) w
      obtain ⟨Y, hY⟩ : ∃ Y, (⟨#[59, 32]⟩ : ByteArray) = Y := ⟨_, rfl⟩
      have y1 : Y.size = 2 := by rw [← hY]; rfl
      rw [hY]
      clear hrel hY
      generalize mkB (s.data.toList.drop q) = X at *
      have HO := Lib.hid hown
      clear hown
      go_wp2_with (at_builtin; refine wpList_app_G _ elemS rfl _ _ rfl (base := w.heap.size) rfl (HO.out.ext ((Ext.refl _).alloc _)) (m := [X]) rfl (SlG.one elemS.hk _ ?k1 ?k2) ?k3 ?k4 ?k5 ?k6 ?_)
      case k1 => rfl
      all_goals first
        | (intro e; cases e; done)
        | (have := hln; have := hx.size; omega; done)
        | (have := hln; have := hx.size; simp; omega; done)
        | skip
      intro v' w3 hown' hbl
      have hx3 : Ext w w3 := below_ext (hx.alloc _) hbl (Nat.le_refl _)
      go_wp2
      go_ret
      exact ⟨v', rfl, by rw [HN.out]; exact hown', hx3⟩
end
section
open Go.RowKit
set_option linter.unusedVariables false
set_option linter.unusedSimpArgs false
set_option linter.unusedSectionVars false
set_option maxRecDepth 100000
attribute [local go_sem] Oper.semAt_some

theorem rwhole_any (s : ByteArray) (hs : s.size ≤ 140737488355328) (w : World) :
    Calls Tryd.prog 88 #[.string s] w fun e w' => e = .returned (.tuple #[.int .i64 (wholeF s.data.toList).1, .bool (wholeF s.data.toList).2]) ∧ w = w' := by
  have hN := rnum_any s 0 (Nat.zero_le _) hs w
  have e : numAtS s 0 = numF s.data.toList := by unfold numAtS; rw [List.drop_zero]
  have hl : s.data.toList.length = s.size := by simp
  unfold wholeF
  rw [e] at hN
  rw [hl]
  generalize numF s.data.toList = r at *
  obtain ⟨r1, r2⟩ := r
  simp only at hN ⊢
  clear e hl
  have hN' : Calls Tryd.prog 106 #[.string s, .int .i64 0] w fun e w' => e = .returned (.tuple #[.int .i64 r1, .int .i64 r2]) ∧ w = w' := hN
  clear hN
  by_cases h1 : 0 < r2
  · by_cases h2 : r2 = s.size
    · have h2' : (r2 == (s.size : Int)) = true := by rw [h2]; simp
      have HR := Lib.hid (show (decide (0 < r2) && decide (r2 = s.size)) = true from by simp [h1, h2]; omega)
      clear h2
      go_enter Tryd.func88, Tryd.ntmps88
      go_wp2_with (go_at_call 106; refine hN'.mono ?_; rintro e w1 ⟨rfl, rfl⟩)
      go_ret2
      exact ⟨by rw [HR.out]; rfl, rfl⟩
    · have h2' : (r2 == (s.size : Int)) = false := by rw [beq_eq_false_iff_ne]; exact h2
      have HR := Lib.hid (show (decide (0 < r2) && decide (r2 = s.size)) = false from by simp [h2])
      clear h2
      go_enter Tryd.func88, Tryd.ntmps88
      go_wp2_with (go_at_call 106; refine hN'.mono ?_; rintro e w1 ⟨rfl, rfl⟩)
      go_ret2
      exact ⟨by rw [HR.out]; rfl, rfl⟩
  · have HR := Lib.hid (show (decide (0 < r2) && decide (r2 = s.size)) = false from by simp [h1])
    go_enter Tryd.func88, Tryd.ntmps88
    go_wp2_with (go_at_call 106; refine hN'.mono ?_; rintro e w1 ⟨rfl, rfl⟩)
    go_ret2
    exact ⟨by rw [HR.out]; rfl, rfl⟩
end
end Go.Proofs.YtepgpejdnlejnaaDoor
