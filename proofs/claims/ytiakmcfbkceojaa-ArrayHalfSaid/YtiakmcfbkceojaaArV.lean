/- ArrayHalf: the walk. -/
import Derived.Test.YtiakmcfbkceojaaArX5
namespace Go.Proofs.Ytiakmcfbkceojaa
open Go.RowKit Go.Maps
set_option linter.unusedVariables false
set_option linter.unusedSimpArgs false
set_option linter.unusedSectionVars false
set_option maxRecDepth 20000
attribute [local go_sem] Oper.semAt_some

theorem u64_ge (x : Int) : 0 ≤ IntKind.u64.wrap x := by
  unfold IntKind.wrap
  simp [IntKind.signed, IntKind.bits]
  omega
theorem insF_len {b : Int} {LL : List (List Int)} {index : Nat} {k : Int} (h : index ≤ LL.flatten.length) : (insF b LL index k).flatten.length = LL.flatten.length + 1 := by
  rw [insF_flat h]; exact insI_length h
theorem remF_len {b : Int} {LL : List (List Int)} {index : Nat} (h : index < LL.flatten.length) : (remF b LL index).flatten.length ≤ LL.flatten.length := by
  rw [remF_flat h, List.length_eraseIdx]; split <;> omega
/-- the array on its way, with the number of steps done and the next key -/
def HfR (b : Int) (n : Nat) (w : World) (i a g e : Value) (wr : World) : Prop :=
  ∃ (k : Nat) (y : Int) (P : Option Addr) (c : Nat) (Q : Nat → Option Addr) (C : Nat → Nat) (X : List (List Int)), k ≤ n ∧ 900000 ≤ y ∧ y ≤ 900000 + k ∧ i = .int .i64 k ∧ g = .int .i64 y ∧ e = .int .i64 0 ∧ a = .slice P X.length c ∧ SlA wr P c Q C X ∧ ArOk b X ∧ HalfC (b / 2) X ∧ X.flatten.length ≤ 60 + k ∧ Ext w wr
set_option maxHeartbeats 8000000 in
theorem arrayHalf_any (b : Int) (P : Option Addr) (cap : Nat) (l : List Int) (P2 : Option Addr) (cap2 : Nat) (s : List Int) (w : World) (h : SlI w P cap l) (h2 : SlI w P2 cap2 s) (hv : ∀ x ∈ l, In64 x) (hv2 : ∀ x ∈ s, In64 x) :
    Calls Try.prog 7 #[.int .i64 b, .slice P l.length cap, .slice P2 s.length cap2] w fun e w' => e = .returned (.bool true) ∧ Ext w w' := by
  have hll : l.length ≤ 9223372036854775807 := Nat.le_trans h.le h.cap
  have hsl : s.length ≤ 9223372036854775807 := Nat.le_trans h2.le h2.cap
  by_cases hl : l.length ≤ 60 ∧ s.length ≤ 60
  · obtain ⟨hl1, hl2⟩ := hl
    have hM := fun W hW => make_any b P cap l W hW hv (by omega)
    unfold MakePost at hM
    have hc1 : decide ((60 : Int) < l.length) = false := by rw [decide_eq_false_iff_not]; omega
    have hc2 : decide ((60 : Int) < s.length) = false := by rw [decide_eq_false_iff_not]; omega
    by_cases hy : KeysOk l ∧ roomB b = true
    · have hok0 := makeF_all b l hy.2 hy.1
      have hfl : (makeF b l l.length).flatten = l := by rw [makeF_flat b l _ (Nat.le_refl _), List.take_length]
      have hH0 := makeF_half b l hy.2 l.length (Nat.le_refl _)
      have hF0 : (makeF b l l.length).flatten.length ≤ 60 := by rw [hfl]; exact hl1
      obtain ⟨h1, e2⟩ := makeE_yes hy.1 hy.2
      rw [h1, e2] at hM
      clear h1 e2 hy hfl
      generalize makeF b l l.length = LL at *
      go_enter Try.func7, Try.ntmps7
      go_wp2_with (first
        | (go_at_call 10; refine (hM _ h).mono ?_; rintro e w1 ⟨v1, R1, rfl, hO1, hm1, hx1⟩))
      obtain ⟨P1, c1, Q1, C1, hv1, hA1⟩ := hO1.read
      rw [hm1] at hv1 hA1
      subst hv1
      have h2' := h2.ext hx1
      clear hM hO1 hm1 hc1 hc2 h
      go_loopw [10, 7, 9, 8, 11, 12, 13, 14, 15, 16] (fun i a g e _ _ _ _ _ _ wr => HfR b s.length w i a g e wr) (fun i _ _ _ _ _ _ _ _ _ _ => s.length - (intOf i).toNat)
      case atStart => exact ⟨0, 900000, P1, c1, Q1, C1, LL, by omega, by omega, by omega, rfl, rfl, rfl, rfl, hA1, hok0, hH0, by omega, hx1⟩
      case round =>
        obtain ⟨k, y, P, c, Q, C, X, hk, hy1, hy2, rfl, rfl, rfl, rfl, hA, hok, hH, hF, hx⟩ := hrel
        by_cases hlt : k < s.length
        · obtain ⟨bb, off, hP, hc⟩ := h2.at_ k hlt
          subst hP
          have hc := hx.cell hc
          have c1 : (k : Int) < s.length := by omega
          have hin64 := hv2 _ (nthI_mem hlt)
          generalize nthI s k = x at *
          have hokk := hok
          have HH := Lib.hid hH
          have HF : Hid (X.flatten.length ≤ 60 + (k + 1)) := Lib.hid (by omega)
          have hroom := roomB_t hok.room
          have hky : keyB (y + 1) = true := by simp [keyB]; omega
          have d1 : IntKind.i64.wrap (y + 1) = y + 1 := IntWalk.i64_in _ ⟨by omega, by omega⟩
          have d2 : IntKind.i64.wrap ((k : Int) + 1) = (k : Int) + 1 := IntWalk.i64_in _ ⟨by omega, by omega⟩
          have d3 : IntKind.i64.wrap ((X.flatten.length : Int) + 1) = (X.flatten.length : Int) + 1 := IntWalk.i64_in _ ⟨by omega, by omega⟩
          have d4 : IntKind.u64.wrap ((X.flatten.length : Int) + 1) = (X.flatten.length : Int) + 1 := IntWalk.u64_in _ ⟨by omega, by omega⟩
          have hz1 : ((X.flatten.length : Int) + 1 == 0) = false := by simp; omega
          have hNle : X.flatten.length ≤ 120 := by omega
          obtain ⟨i, hi1, hi2⟩ : ∃ i : Nat, wrap64 ((IntKind.u64.wrap x).tmod ((X.flatten.length : Int) + 1)) = i ∧ i ≤ X.flatten.length := by
            have u0 : 0 ≤ IntKind.u64.wrap x := u64_ge x
            have u1 := Int.tmod_nonneg ((X.flatten.length : Int) + 1) u0
            have u2 := Int.tmod_lt_of_pos (IntKind.u64.wrap x) (show (0 : Int) < (X.flatten.length : Int) + 1 by omega)
            refine ⟨((IntKind.u64.wrap x).tmod ((X.flatten.length : Int) + 1)).toNat, ?_, by omega⟩
            rw [IntWalk.wrap64_in _ ⟨by omega, by omega⟩]
            omega
          have hKy : ∀ W, SlA W P c Q C X → Calls Try.prog 13 #[.int .i64 b, .slice P X.length c] W fun e w' => ∃ P5 c5, e = .returned (.tuple #[.slice P5 X.flatten.length c5, .int .i64 0]) ∧ Ext W w' := fun W hW => (akeys_yes b P c Q C X W hW hok hok.in64).mono (by
            rintro e w' ⟨v, rfl, hown, hx'⟩
            obtain ⟨P5, c5, rfl, _⟩ := slI_of_row hown
            exact ⟨P5, c5, rfl, hx'⟩)
          obtain ⟨hb, hbe⟩ : ∃ hb, b / 2 = hb := ⟨_, rfl⟩
          have hHb := Lib.hid hbe
          have db : IntKind.i64.wrap (b.tdiv 2) = hb := by rw [Int.tdiv_eq_ediv_of_nonneg (by omega), IntWalk.i64_in _ ⟨by omega, by omega⟩]; exact hbe
          by_cases hs : x < 0
          · by_cases hiN : i < X.flatten.length
            · have hiN' : (i : Int) < X.flatten.length := by omega
              have hT := fun W hW => atake_yes b P c Q C X W hW hok.in64 i hok hiN
              unfold TPost at hT
              have hok' := hok.rem hiN
              have hH' := remF_half hiN hok.room hok.blocks hH
              have hF' : (remF b X i).flatten.length ≤ 60 + (k + 1) := by have := remF_len (b := b) hiN; omega
              generalize remF b X i = X' at *
              generalize nthI X.flatten i = kk at *
              clear hok hH hF
              rw [hHb.out] at hH'
              generalize hN : X.flatten.length = N at *
              have HN := Lib.hid hN
              clear hN
              go_wp2_with (first
                | (go_at_call 13; refine (hKy _ (by exact hA)).mono ?_; rintro e w2 ⟨P5, c5, rfl, hx2⟩; have E2 := hx.trans hx2; replace hc := hx2.cell hc)
                | (go_at_call 32; (try rw [hi1]); refine (hT _ (by exact hA.ext hx2)).mono ?_; rintro e w3 ⟨P', c', Q', C', rfl, sa, hx3⟩; have E3 := E2.trans hx3))
              go_loopw [16] (fun i wq => ∃ j n : Nat, (j + 1 ≤ X'.length ∨ j = 0) ∧ i = .int .i64 ((j : Int) + 1) ∧ wq = w3.drewN n) (fun i _ => X'.length - (intOf i).toNat)
              case atStart => exact ⟨0, 0, .inr rfl, rfl, by rw [World.drewN_zero]⟩
              case round =>
                obtain ⟨j, nq, hj, rfl, rfl⟩ := hrel
                have hXl := sa.len
                by_cases hjl : j + 1 < X'.length
                · obtain ⟨b3, o3, hP3, g3⟩ := sa.at_ j (by omega)
                  obtain ⟨b4, o4, hP4, g4⟩ := sa.at_ (j + 1) hjl
                  subst hP3
                  injection hP4 with hP4
                  injection hP4 with e1 e2
                  subst e1 e2
                  have hh := halfC_get hH' j hjl
                  have l1 := (sa.row j (by omega)).le
                  have l2 := (sa.row (j + 1) hjl).le
                  have l3 := (sa.row j (by omega)).cap
                  have l4 := (sa.row (j + 1) hjl).cap
                  have q1 : (j : Int) + 1 < X'.length := by omega
                  have q2 : (j : Int) < X'.length := by omega
                  have q5 : ((j : Int) + 1).toNat = j + 1 := by omega
                  have d5 : IntKind.i64.wrap ((j : Int) + 1 - 1) = j := by rw [IntWalk.i64_in _ ⟨by omega, by omega⟩]; omega
                  have d6 : IntKind.i64.wrap ((j : Int) + 1 + 1) = (j : Int) + 1 + 1 := IntWalk.i64_in _ ⟨by omega, by omega⟩
                  generalize nthA X' j = x1 at *
                  generalize nthA X' (j + 1) = x2 at *
                  by_cases hc1 : (x1.length : Int) < hb
                  · have hc2 : decide ((x2.length : Int) < hb) = false := by
                      rw [decide_eq_false_iff_not]; omega
                    clear hh hj
                    go_wp2
                    go_roundw
                    case rel => exact ⟨j + 1, _, .inl (by omega), by go_num, rfl⟩
                    case measure => simp [intOf]; omega
                  · have hc2 : decide ((x1.length : Int) < hb) = false := by
                      rw [decide_eq_false_iff_not]; omega
                    clear hh hj hc1
                    go_wp2
                    go_roundw
                    case rel => exact ⟨j + 1, _, .inl (by omega), by go_num, rfl⟩
                    case measure => simp [intOf]; omega
                · have q1 : decide ((j : Int) + 1 < X'.length) = false := by
                    rw [decide_eq_false_iff_not]; omega
                  clear hjl
                  go_wp2
                  go_roundw
                  case rel => exact ⟨k + 1, y, P', c', Q', C', X', by omega, by omega, by omega, by go_num, rfl, rfl, rfl, sa.ext ((Ext.refl _).drewN nq), hok', hHb.out ▸ hH', hF', E3.trans ((Ext.refl _).drewN nq)⟩
                  case measure => simp [intOf]; omega
            · have hiN' : decide ((i : Int) < X.flatten.length) = false := by rw [decide_eq_false_iff_not]; omega
              have hiN2 : (X.flatten.length : Int) ≤ i := by omega
              have hiN3 : ¬ ((i : Int) < X.flatten.length) := by omega
              clear hiN
              by_cases hin : y + 1 ∈ X.flatten
              · have hPt := fun W hW => aput_dup b P c Q C X W hW hok.in64 (y + 1) i hok hky (by omega) hin
                unfold PPost at hPt
                clear hin hok hH hF
                generalize hN : X.flatten.length = N at *
                have HN := Lib.hid hN
                clear hN
                go_wp2_with (first
                  | (go_at_call 13; refine (hKy _ (by exact hA)).mono ?_; rintro e w2 ⟨P5, c5, rfl, hx2⟩; have E2 := hx.trans hx2; replace hc := hx2.cell hc)
                  | (go_at_call 33; (try rw [hi1]); refine (hPt _ (by exact hA.ext hx2)).mono ?_; rintro e w3 ⟨P', c', Q', C', rfl, sa, hx3⟩; have E3 := E2.trans hx3))
                go_roundw
                case rel => exact ⟨k + 1, y + 1, P, c, Q, C, X, by omega, by omega, by omega, by go_num, rfl, rfl, rfl, hA.ext (hx2.trans hx3), hokk, HH.out, by rw [HN.out]; exact HF.out, E3⟩
                case measure => simp [intOf]; omega
              · have hPt := fun W hW => aput_yes b P c Q C X W hW hok.in64 (y + 1) i hok hky (by omega) hin (by omega)
                unfold PPost at hPt
                have hok' := hok.ins hky hin (by omega) (show i ≤ X.flatten.length by omega)
                have hH' := insF_half (k := y + 1) (show i ≤ X.flatten.length by omega) hok.room hok.blocks hH
                have hF' : (insF b X i (y + 1)).flatten.length ≤ 60 + (k + 1) := by have := insF_len (b := b) (k := y + 1) (show i ≤ X.flatten.length by omega); omega
                generalize insF b X i (y + 1) = X' at *
                clear hin hok hH hF
                rw [hHb.out] at hH'
                generalize hN : X.flatten.length = N at *
                have HN := Lib.hid hN
                clear hN
                go_wp2_with (first
                  | (go_at_call 13; refine (hKy _ (by exact hA)).mono ?_; rintro e w2 ⟨P5, c5, rfl, hx2⟩; have E2 := hx.trans hx2; replace hc := hx2.cell hc)
                  | (go_at_call 33; (try rw [hi1]); refine (hPt _ (by exact hA.ext hx2)).mono ?_; rintro e w3 ⟨P', c', Q', C', rfl, sa, hx3⟩; have E3 := E2.trans hx3))
                go_loopw [16] (fun i wq => ∃ j n : Nat, (j + 1 ≤ X'.length ∨ j = 0) ∧ i = .int .i64 ((j : Int) + 1) ∧ wq = w3.drewN n) (fun i _ => X'.length - (intOf i).toNat)
                case atStart => exact ⟨0, 0, .inr rfl, rfl, by rw [World.drewN_zero]⟩
                case round =>
                  obtain ⟨j, nq, hj, rfl, rfl⟩ := hrel
                  have hXl := sa.len
                  by_cases hjl : j + 1 < X'.length
                  · obtain ⟨b3, o3, hP3, g3⟩ := sa.at_ j (by omega)
                    obtain ⟨b4, o4, hP4, g4⟩ := sa.at_ (j + 1) hjl
                    subst hP3
                    injection hP4 with hP4
                    injection hP4 with e1 e2
                    subst e1 e2
                    have hh := halfC_get hH' j hjl
                    have l1 := (sa.row j (by omega)).le
                    have l2 := (sa.row (j + 1) hjl).le
                    have l3 := (sa.row j (by omega)).cap
                    have l4 := (sa.row (j + 1) hjl).cap
                    have q1 : (j : Int) + 1 < X'.length := by omega
                    have q2 : (j : Int) < X'.length := by omega
                    have q5 : ((j : Int) + 1).toNat = j + 1 := by omega
                    have d5 : IntKind.i64.wrap ((j : Int) + 1 - 1) = j := by rw [IntWalk.i64_in _ ⟨by omega, by omega⟩]; omega
                    have d6 : IntKind.i64.wrap ((j : Int) + 1 + 1) = (j : Int) + 1 + 1 := IntWalk.i64_in _ ⟨by omega, by omega⟩
                    generalize nthA X' j = x1 at *
                    generalize nthA X' (j + 1) = x2 at *
                    by_cases hc1 : (x1.length : Int) < hb
                    · have hc2 : decide ((x2.length : Int) < hb) = false := by
                        rw [decide_eq_false_iff_not]; omega
                      clear hh hj
                      go_wp2
                      go_roundw
                      case rel => exact ⟨j + 1, _, .inl (by omega), by go_num, rfl⟩
                      case measure => simp [intOf]; omega
                    · have hc2 : decide ((x1.length : Int) < hb) = false := by
                        rw [decide_eq_false_iff_not]; omega
                      clear hh hj hc1
                      go_wp2
                      go_roundw
                      case rel => exact ⟨j + 1, _, .inl (by omega), by go_num, rfl⟩
                      case measure => simp [intOf]; omega
                  · have q1 : decide ((j : Int) + 1 < X'.length) = false := by
                      rw [decide_eq_false_iff_not]; omega
                    clear hjl
                    go_wp2
                    go_roundw
                    case rel => exact ⟨k + 1, y + 1, P', c', Q', C', X', by omega, by omega, by omega, by go_num, rfl, rfl, rfl, sa.ext ((Ext.refl _).drewN nq), hok', hHb.out ▸ hH', hF', E3.trans ((Ext.refl _).drewN nq)⟩
                    case measure => simp [intOf]; omega
          · have hs' : decide (x < 0) = false := by rw [decide_eq_false_iff_not]; omega
            clear hs
            by_cases hin : y + 1 ∈ X.flatten
            · have hPt := fun W hW => aput_dup b P c Q C X W hW hok.in64 (y + 1) i hok hky (by omega) hin
              unfold PPost at hPt
              clear hin hok hH hF
              generalize hN : X.flatten.length = N at *
              have HN := Lib.hid hN
              clear hN
              go_wp2_with (first
                | (go_at_call 13; refine (hKy _ (by exact hA)).mono ?_; rintro e w2 ⟨P5, c5, rfl, hx2⟩; have E2 := hx.trans hx2; replace hc := hx2.cell hc)
                | (go_at_call 33; (try rw [hi1]); refine (hPt _ (by exact hA.ext hx2)).mono ?_; rintro e w3 ⟨P', c', Q', C', rfl, sa, hx3⟩; have E3 := E2.trans hx3))
              go_roundw
              case rel => exact ⟨k + 1, y + 1, P, c, Q, C, X, by omega, by omega, by omega, by go_num, rfl, rfl, rfl, hA.ext (hx2.trans hx3), hokk, HH.out, by rw [HN.out]; exact HF.out, E3⟩
              case measure => simp [intOf]; omega
            · have hPt := fun W hW => aput_yes b P c Q C X W hW hok.in64 (y + 1) i hok hky (by omega) hin (by omega)
              unfold PPost at hPt
              have hok' := hok.ins hky hin (by omega) (show i ≤ X.flatten.length by omega)
              have hH' := insF_half (k := y + 1) (show i ≤ X.flatten.length by omega) hok.room hok.blocks hH
              have hF' : (insF b X i (y + 1)).flatten.length ≤ 60 + (k + 1) := by have := insF_len (b := b) (k := y + 1) (show i ≤ X.flatten.length by omega); omega
              generalize insF b X i (y + 1) = X' at *
              clear hin hok hH hF
              rw [hHb.out] at hH'
              generalize hN : X.flatten.length = N at *
              have HN := Lib.hid hN
              clear hN
              go_wp2_with (first
                | (go_at_call 13; refine (hKy _ (by exact hA)).mono ?_; rintro e w2 ⟨P5, c5, rfl, hx2⟩; have E2 := hx.trans hx2; replace hc := hx2.cell hc)
                | (go_at_call 33; (try rw [hi1]); refine (hPt _ (by exact hA.ext hx2)).mono ?_; rintro e w3 ⟨P', c', Q', C', rfl, sa, hx3⟩; have E3 := E2.trans hx3))
              go_loopw [16] (fun i wq => ∃ j n : Nat, (j + 1 ≤ X'.length ∨ j = 0) ∧ i = .int .i64 ((j : Int) + 1) ∧ wq = w3.drewN n) (fun i _ => X'.length - (intOf i).toNat)
              case atStart => exact ⟨0, 0, .inr rfl, rfl, by rw [World.drewN_zero]⟩
              case round =>
                obtain ⟨j, nq, hj, rfl, rfl⟩ := hrel
                have hXl := sa.len
                by_cases hjl : j + 1 < X'.length
                · obtain ⟨b3, o3, hP3, g3⟩ := sa.at_ j (by omega)
                  obtain ⟨b4, o4, hP4, g4⟩ := sa.at_ (j + 1) hjl
                  subst hP3
                  injection hP4 with hP4
                  injection hP4 with e1 e2
                  subst e1 e2
                  have hh := halfC_get hH' j hjl
                  have l1 := (sa.row j (by omega)).le
                  have l2 := (sa.row (j + 1) hjl).le
                  have l3 := (sa.row j (by omega)).cap
                  have l4 := (sa.row (j + 1) hjl).cap
                  have q1 : (j : Int) + 1 < X'.length := by omega
                  have q2 : (j : Int) < X'.length := by omega
                  have q5 : ((j : Int) + 1).toNat = j + 1 := by omega
                  have d5 : IntKind.i64.wrap ((j : Int) + 1 - 1) = j := by rw [IntWalk.i64_in _ ⟨by omega, by omega⟩]; omega
                  have d6 : IntKind.i64.wrap ((j : Int) + 1 + 1) = (j : Int) + 1 + 1 := IntWalk.i64_in _ ⟨by omega, by omega⟩
                  generalize nthA X' j = x1 at *
                  generalize nthA X' (j + 1) = x2 at *
                  by_cases hc1 : (x1.length : Int) < hb
                  · have hc2 : decide ((x2.length : Int) < hb) = false := by
                      rw [decide_eq_false_iff_not]; omega
                    clear hh hj
                    go_wp2
                    go_roundw
                    case rel => exact ⟨j + 1, _, .inl (by omega), by go_num, rfl⟩
                    case measure => simp [intOf]; omega
                  · have hc2 : decide ((x1.length : Int) < hb) = false := by
                      rw [decide_eq_false_iff_not]; omega
                    clear hh hj hc1
                    go_wp2
                    go_roundw
                    case rel => exact ⟨j + 1, _, .inl (by omega), by go_num, rfl⟩
                    case measure => simp [intOf]; omega
                · have q1 : decide ((j : Int) + 1 < X'.length) = false := by
                    rw [decide_eq_false_iff_not]; omega
                  clear hjl
                  go_wp2
                  go_roundw
                  case rel => exact ⟨k + 1, y + 1, P', c', Q', C', X', by omega, by omega, by omega, by go_num, rfl, rfl, rfl, sa.ext ((Ext.refl _).drewN nq), hok', hHb.out ▸ hH', hF', E3.trans ((Ext.refl _).drewN nq)⟩
                  case measure => simp [intOf]; omega
        · obtain rfl : k = s.length := by omega
          clear hlt
          go_wp2_with (go_at_call 9; refine (awake_any _).mono ?_; rintro e w7 ⟨rfl, hx7⟩)
          go_ret
          exact ⟨rfl, hx.trans hx7⟩
    · obtain ⟨h1, e2⟩ := makeE_no hy (by omega)
      rw [h1, e2] at hM
      clear h1 e2 hy
      go_enter Try.func7, Try.ntmps7
      go_wp2_with (first
        | (go_at_call 10; refine (hM _ h).mono ?_; rintro e w1 ⟨v1, R1, rfl, hO1, hm1, hx1⟩)
        | (go_at_call 9; refine (awake_any _).mono ?_; rintro e w7 ⟨rfl, hx7⟩))
      go_ret
      exact ⟨rfl, hx1.trans hx7⟩
  · by_cases hl1 : l.length ≤ 60
    · have hc1 : decide ((60 : Int) < l.length) = false := by rw [decide_eq_false_iff_not]; omega
      have hc2 : (60 : Int) < s.length := by omega
      clear hl1 hl
      go_enter Try.func7, Try.ntmps7
      go_wp2_with (go_at_call 9; refine (awake_any _).mono ?_; rintro e w7 ⟨rfl, hx7⟩)
      go_ret
      exact ⟨rfl, hx7⟩
    · have hc1 : (60 : Int) < l.length := by omega
      clear hl1 hl
      go_enter Try.func7, Try.ntmps7
      go_wp2_with (go_at_call 9; refine (awake_any _).mono ?_; rintro e w7 ⟨rfl, hx7⟩)
      go_ret
      exact ⟨rfl, hx7⟩
end Go.Proofs.Ytiakmcfbkceojaa
