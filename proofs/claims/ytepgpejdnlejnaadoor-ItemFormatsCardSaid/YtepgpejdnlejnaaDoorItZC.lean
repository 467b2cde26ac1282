/- The reference's Format. -/
import Derived.Test.YtepgpejdnlejnaaDoorItZB
namespace Go.Proofs.YtepgpejdnlejnaaDoor
open Go.RowKit
set_option linter.unusedVariables false
set_option linter.unusedSimpArgs false
set_option linter.unusedSectionVars false
set_option maxRecDepth 100000
attribute [local go_sem] Oper.semAt_some

/-- the first items, written -/
def fmtK (l : List It) (k : Nat) : List UInt8 := Lib.join ((l.take k).map fun x => itemT (toI x)) [59, 32]
theorem fmtK_succ {l : List It} {k : Nat} (hk : k < l.length) : fmtK l (k + 1) = if k = 0 then itemT (toI (nthT l k)) else fmtK l k ++ [59, 32] ++ itemT (toI (nthT l k)) := by
  unfold fmtK
  rw [List.take_add_one, nthT_some hk, List.map_append]
  simp only [Option.toList_some, List.map_cons, List.map_nil]
  rw [join_snoc]
  by_cases h : k = 0
  · subst h
    simp
  · rw [if_neg h, if_neg]
    intro e
    have := congrArg List.length e
    rw [List.length_map, List.length_take, List.length_nil] at this
    omega
theorem fmtK_le {l : List It} (hall : ∀ x ∈ l, itemB x = true) (k : Nat) (hk : k ≤ l.length) : (fmtK l k).length ≤ k * 82 := by
  have := join_le [59, 32] 80 ((l.take k).map fun x => itemT (toI x)) (by
    intro x hx
    obtain ⟨y, hy, rfl⟩ := List.mem_map.1 hx
    exact itemS_le (hall y (List.mem_of_mem_take hy)))
  rw [List.length_map, List.length_take, Nat.min_eq_left hk] at this
  exact this
theorem itemS_intL (X : ByteArray) {x : It} (h : x.2.1 = 1) : ((((X ++ x.1) ++ ⟨#[32, 105, 110, 116, 32]⟩) ++ mkB (Lib.itoa x.2.2.1)) ++ ⟨#[32]⟩) ++ mkB (Lib.itoa x.2.2.2.1) = X ++ itemS x := by
  rw [← itemS_int h]
  apply ByteArray.ext
  apply Array.ext'
  simp [mkB]
theorem itemS_textL (X : ByteArray) {x : It} (h : ¬ x.2.1 = 1) : ((X ++ x.1) ++ ⟨#[32, 116, 101, 120, 116, 32]⟩) ++ mkB (Lib.itoa x.2.2.2.2) = X ++ itemS x := by
  rw [← itemS_text h]
  apply ByteArray.ext
  apply Array.ext'
  simp [mkB]
set_option maxHeartbeats 8000000 in
theorem rformat_any (P : Option Addr) (cap : Nat) (l : List It) (w : World) (h : SlT w P cap l) :
    Calls Tryd.prog 49 #[.slice P l.length cap] w fun e w' => e = .returned (.string (mkB (fmtL l))) ∧ Ext w w' := by
  have hlen := h.len
  have hR := ritems_any P cap l w h
  cases hr : itemsB l with
  | false =>
    have HB := Lib.hid (show fmtL l = [] from by simp [fmtL, hr])
    simp only [hr] at hR
    clear hr
    go_enter Tryd.func49, Tryd.ntmps49
    go_wp2_with (go_at_call 21; refine hR.mono ?_; rintro e w1 ⟨rfl, hx1⟩)
    go_ret
    exact ⟨by rw [HB.out]; rfl, hx1⟩
  | true =>
    have HB := Lib.hid (show fmtL l = fmtK l l.length from by simp [fmtL, hr, fmtK])
    simp only [hr] at hR
    obtain ⟨h8, hall⟩ := item_all hr
    clear hr
    go_enter Tryd.func49, Tryd.ntmps49
    go_wp2_with (go_at_call 21; refine hR.mono ?_; rintro e w1 ⟨rfl, hx1⟩)
    go_loopw [4, 3] (fun i v wr => ∃ k : Nat, k ≤ l.length ∧ i = .int .i64 k ∧ v = .string (mkB (fmtK l k)) ∧ Ext w wr) (fun i _ _ => l.length - (intOf i).toNat)
    case atStart => exact ⟨0, by omega, rfl, rfl, hx1⟩
    case round =>
      obtain ⟨k, hk, rfl, rfl, hx⟩ := hrel
      by_cases hlt : k < l.length
      · obtain ⟨b, off, hP, g0, g1, g2, g3, g4⟩ := h.itemAt k hlt
        subst hP
        have g0 := hx.cell g0
        have g1 := hx.cell g1
        have g2 := hx.cell g2
        have g3 := hx.cell g3
        have g4 := hx.cell g4
        have c1 : (k : Int) < l.length := by omega
        have d1 : IntKind.i64.wrap ((k : Int) + 1) = (k : Int) + 1 := IntWalk.i64_in _ ⟨by omega, by omega⟩
        have hv := item_num (hall _ (nthT_mem hlt))
        have hkl := fmtK_le hall k hk
        have hS := fmtK_succ hlt
        have hXs : (mkB (fmtK l k)).size ≤ 1000 := by rw [mkB_size]; omega
        have hX0 : k = 0 → mkB (fmtK l k) = ⟨#[]⟩ := fun e => by subst e; rfl
        have hY : ∀ X : ByteArray, (k = 0 → X = ⟨#[]⟩) → (k ≠ 0 → X = mkB (fmtK l k) ++ ⟨#[59, 32]⟩) → X ++ itemS (nthT l k) = mkB (fmtK l (k + 1)) := by
          intro X h1 h2
          rw [hS]
          by_cases e : k = 0
          · rw [if_pos e, h1 e]
            apply ByteArray.ext
            apply Array.ext'
            simp [itemS, mkB]
          · rw [if_neg e, h2 e]
            apply ByteArray.ext
            apply Array.ext'
            simp [itemS, mkB]
        obtain ⟨X, hX⟩ : ∃ X, mkB (fmtK l k) = X := ⟨_, rfl⟩
        obtain ⟨N, hN⟩ : ∃ N, mkB (fmtK l (k + 1)) = N := ⟨_, rfl⟩
        obtain ⟨x, hx0⟩ : ∃ x, nthT l k = x := ⟨_, rfl⟩
        rw [hX] at hXs hX0 hY
        rw [hN, hx0] at hY
        rw [hX]
        rw [hx0] at g0 g1 g2 g3 g4 hv
        have HN := Lib.hid hN
        clear hS hkl hX hN hx0
        obtain ⟨nm, kd, lo, hi, ln⟩ := x
        simp only at g0 g1 g2 g3 g4 hv
        obtain ⟨v1, v2, v3, v4⟩ := hv
        have b1 := itoaB_le lo (by omega) (by omega)
        have b2 := itoaB_le hi (by omega) (by omega)
        have b3 := itoaB_le ln (by omega) (by omega)
        have hD1 := fun W => rdec_any lo (by omega) (by omega) W
        have hD2 := fun W => rdec_any hi (by omega) (by omega) W
        have hD3 := fun W => rdec_any ln (by omega) (by omega) W
        have em : ∀ n, (⟨(Lib.itoa n).toArray⟩ : ByteArray) = mkB (Lib.itoa n) := fun _ => rfl
        rw [em] at hD1 hD2 hD3
        have hI := fun (Z : ByteArray) (e : kd = 1) => itemS_intL Z (x := (nm, kd, lo, hi, ln)) e
        have hJ := fun (Z : ByteArray) (e : ¬ kd = 1) => itemS_textL Z (x := (nm, kd, lo, hi, ln)) e
        simp only at hI hJ
        obtain ⟨I1, hi1⟩ : ∃ I, mkB (Lib.itoa lo) = I := ⟨_, rfl⟩
        obtain ⟨I2, hi2⟩ : ∃ I, mkB (Lib.itoa hi) = I := ⟨_, rfl⟩
        obtain ⟨I3, hi3⟩ : ∃ I, mkB (Lib.itoa ln) = I := ⟨_, rfl⟩
        rw [hi1] at b1 hD1
        rw [hi2] at b2 hD2
        rw [hi3] at b3 hD3
        simp only [hi1, hi2] at hI
        simp only [hi3] at hJ
        have hq : ∀ (c : Int) (W : World) (m : Nat) (r : ByteArray), ((c = lo ∧ r = I1) ∨ (c = hi ∧ r = I2) ∨ (c = ln ∧ r = I3)) → Calls Tryd.prog 83 #[.int .i64 c] (W.drewN m) fun e w' => e = .returned (.string r) ∧ ∃ m, w' = W.drewN m := by
          rintro c W m r (⟨rfl, rfl⟩ | ⟨rfl, rfl⟩ | ⟨rfl, rfl⟩)
          · exact (hD1 _).mono fun e w' ⟨he, hw⟩ => ⟨he, m, hw.symm⟩
          · exact (hD2 _).mono fun e w' ⟨he, hw⟩ => ⟨he, m, hw.symm⟩
          · exact (hD3 _).mono fun e w' ⟨he, hw⟩ => ⟨he, m, hw.symm⟩
        clear em hi1 hi2 hi3 v2 v3 v4 hD1 hD2 hD3
        by_cases hk0 : k = 0
        · have hX1 := hX0 hk0
          have hYX := hY X (fun _ => hX1) (fun e => absurd hk0 e)
          have c2 : ¬ (0 : Int) < k := by omega
          have hZs : X.size ≤ 1002 := by omega
          clear hk0 hX1 hX0 hY hXs
          by_cases hk1 : kd = 1
          · have hE := hI X hk1
            rw [hYX] at hE
            subst hk1
            have z0 : ¬ 9223372036854775807 < X.size + nm.size := by omega
            have z1 : ¬ 9223372036854775807 < X.size + nm.size + 5 := by omega
            have z2 : ¬ 9223372036854775807 < X.size + nm.size + 5 + I1.size := by omega
            have z3 : ¬ 9223372036854775807 < X.size + nm.size + 5 + I1.size + 1 := by omega
            have z4 : ¬ 9223372036854775807 < X.size + nm.size + 5 + I1.size + 1 + I2.size := by omega
            clear hYX hI hJ hZs b1 b2 b3 v1
            go_wp2
            go_quiet ((go_at_call 83; exact hq _ _ _ _ (by first | exact .inl ⟨rfl, rfl⟩ | exact .inr (.inl ⟨rfl, rfl⟩))))
            go_wp2
            go_roundw
            case rel => exact ⟨k + 1, by omega, by go_num, by first | rw [HN.out] | rw [HN.out, hE], hx.drewN _⟩
            case measure => simp [intOf]; omega
          · have hE := hJ X hk1
            rw [hYX] at hE
            have nk : (kd == 1) = false := by simpa using hk1
            have z0 : ¬ 9223372036854775807 < X.size + nm.size := by omega
            have z1 : ¬ 9223372036854775807 < X.size + nm.size + 6 := by omega
            have z2 : ¬ 9223372036854775807 < X.size + nm.size + 6 + I3.size := by omega
            clear hYX hI hJ hZs b1 b2 b3 v1 hk1
            go_wp2
            go_quiet ((go_at_call 83; exact hq _ _ _ _ (by exact .inr (.inr ⟨rfl, rfl⟩))))
            go_wp2
            go_roundw
            case rel => exact ⟨k + 1, by omega, by go_num, by first | rw [HN.out] | rw [HN.out, hE], hx.drewN _⟩
            case measure => simp [intOf]; omega
        · have hZ0 := hY (X ++ ⟨#[59, 32]⟩) (fun e => absurd e hk0) (fun _ => rfl)
          have c2 : (0 : Int) < k := by omega
          have hl0 : ¬ 9223372036854775807 < X.size + 2 := by omega
          obtain ⟨Z, hZ⟩ : ∃ Z, X ++ ⟨#[59, 32]⟩ = Z := ⟨_, rfl⟩
          have hZs : Z.size ≤ 1002 := by
            rw [← hZ, ByteArray.size_append]
            show X.size + 2 ≤ 1002
            omega
          rw [hZ] at hZ0
          have hYX := hZ0
          clear hk0 hX0 hY hXs hZ0
          by_cases hk1 : kd = 1
          · have hE := hI Z hk1
            rw [hYX] at hE
            subst hk1
            have z0 : ¬ 9223372036854775807 < Z.size + nm.size := by omega
            have z1 : ¬ 9223372036854775807 < Z.size + nm.size + 5 := by omega
            have z2 : ¬ 9223372036854775807 < Z.size + nm.size + 5 + I1.size := by omega
            have z3 : ¬ 9223372036854775807 < Z.size + nm.size + 5 + I1.size + 1 := by omega
            have z4 : ¬ 9223372036854775807 < Z.size + nm.size + 5 + I1.size + 1 + I2.size := by omega
            clear hYX hI hJ hZs b1 b2 b3 v1
            go_wp2
            go_quiet ((go_at_call 83; exact hq _ _ _ _ (by first | exact .inl ⟨rfl, rfl⟩ | exact .inr (.inl ⟨rfl, rfl⟩))))
            go_wp2
            go_roundw
            case rel => exact ⟨k + 1, by omega, by go_num, by first | rw [HN.out] | rw [HN.out, hE], hx.drewN _⟩
            case measure => simp [intOf]; omega
          · have hE := hJ Z hk1
            rw [hYX] at hE
            have nk : (kd == 1) = false := by simpa using hk1
            have z0 : ¬ 9223372036854775807 < Z.size + nm.size := by omega
            have z1 : ¬ 9223372036854775807 < Z.size + nm.size + 6 := by omega
            have z2 : ¬ 9223372036854775807 < Z.size + nm.size + 6 + I3.size := by omega
            clear hYX hI hJ hZs b1 b2 b3 v1 hk1
            go_wp2
            go_quiet ((go_at_call 83; exact hq _ _ _ _ (by exact .inr (.inr ⟨rfl, rfl⟩))))
            go_wp2
            go_roundw
            case rel => exact ⟨k + 1, by omega, by go_num, by first | rw [HN.out] | rw [HN.out, hE], hx.drewN _⟩
            case measure => simp [intOf]; omega
      · obtain rfl : k = l.length := by omega
        go_wp2
        go_ret
        exact ⟨by rw [HB.out]; rfl, hx⟩
end Go.Proofs.YtepgpejdnlejnaaDoor
