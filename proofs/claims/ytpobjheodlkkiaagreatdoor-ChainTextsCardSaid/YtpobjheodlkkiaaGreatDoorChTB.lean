/- ChainTexts: Format of the program. -/
import Derived.Test.YtpobjheodlkkiaaGreatDoorChTA
import Derived.Test.YtpobjheodlkkiaaGreatDoorTxW
import Derived.Test.YtpobjheodlkkiaaGreatDoorTxBl
namespace Go.Proofs.YtpobjheodlkkiaaGreatDoor
open Go.RowKit Go.Maps
set_option linter.unusedVariables false
set_option linter.unusedSimpArgs false
set_option linter.unusedSectionVars false
set_option maxRecDepth 20000
attribute [local go_sem] Oper.semAt_some

def partC (x : Lk) : Nat → List UInt8
  | 0 => []
  | 1 => Lib.itoa x.1
  | 2 => Lib.itoa x.1 ++ [32] ++ Lib.itoa x.2.1
  | 3 => Lib.itoa x.1 ++ [32] ++ Lib.itoa x.2.1 ++ [32] ++ Lib.itoa x.2.2.1
  | _ => Lib.itoa x.1 ++ [32] ++ Lib.itoa x.2.1 ++ [32] ++ Lib.itoa x.2.2.1 ++ [32] ++ Lib.itoa x.2.2.2
def preC (l : List Lk) (k : Nat) : List UInt8 := linesCh (l.take k)
theorem partC_all (x : Lk) : partC x 4 = rowCh x := by simp [partC, rowCh]
theorem partC_le (x : Lk) (q : Nat) (h : q ≤ 4) : (partC x q).length ≤ (rowCh x).length := by
  rcases (show q = 0 ∨ q = 1 ∨ q = 2 ∨ q = 3 ∨ q = 4 by omega) with rfl | rfl | rfl | rfl | rfl <;> simp [partC, rowCh] <;> omega
theorem preC_succ (l : List Lk) (k : Nat) (h : k < l.length) : preC l (k + 1) = preC l k ++ rowCh (nthL l k) ++ [10] := by
  unfold preC linesCh
  rw [List.take_add_one, nthL_some h]
  simp
theorem preC_len {l : List Lk} (h : ∀ x ∈ l, LkOk x) (hl : l.length ≤ 500) (k : Nat) : (preC l k).length ≤ 16000 := by
  have h1 := linesCh_len (l.take k) (fun x hx => h x (List.mem_of_mem_take hx))
  rw [List.length_take] at h1
  unfold preC
  have : min k l.length * 32 ≤ 500 * 32 := Nat.mul_le_mul_right _ (by omega)
  omega
theorem ix_0 (a b c d : Int) (w : World) : Sem.run Tryz.prog (Instr.index 39 (.agg #[.int .i64 a, .int .i64 b, .int .i64 c, .int .i64 d]) (.int .i64 0)) w = .ok (.int .i64 a) w := by rfl
theorem ix_1 (a b c d : Int) (w : World) : Sem.run Tryz.prog (Instr.index 39 (.agg #[.int .i64 a, .int .i64 b, .int .i64 c, .int .i64 d]) (.int .i64 1)) w = .ok (.int .i64 b) w := by rfl
theorem ix_2 (a b c d : Int) (w : World) : Sem.run Tryz.prog (Instr.index 39 (.agg #[.int .i64 a, .int .i64 b, .int .i64 c, .int .i64 d]) (.int .i64 2)) w = .ok (.int .i64 c) w := by rfl
theorem ix_3 (a b c d : Int) (w : World) : Sem.run Tryz.prog (Instr.index 39 (.agg #[.int .i64 a, .int .i64 b, .int .i64 c, .int .i64 d]) (.int .i64 3)) w = .ok (.int .i64 d) w := by rfl
def FoR (l : List Lk) (w : World) (b : Nat) (i : Value) (wr : World) : Prop := ∃ k : Nat, k ≤ l.length ∧ i = .int .i64 k ∧ Bld wr b (preC l k) ∧ Ext w wr ∧ b ≤ wr.heap.size
def FiR (A : List UInt8) (x : Lk) (w : World) (b : Nat) (i : Value) (wr : World) : Prop := ∃ q : Nat, q ≤ 4 ∧ i = .int .i64 q ∧ Bld wr b (A ++ partC x q) ∧ Ext w wr ∧ b ≤ wr.heap.size
set_option maxHeartbeats 4000000 in
theorem fmt_yes (P : Option Addr) (cap : Nat) (l : List Lk) (w : World) (h : SlL w P cap l) (ok : ∀ x ∈ l, OkK x) (hv : validB l = true) (hL : LibW w) :
    Calls Tryz.prog 5 #[.slice P l.length cap] w fun e w' => e = .returned (.string (mkB (fmtC l))) ∧ Ext w w' := by
  have hV := valid_any P cap l w h ok
  rw [hv] at hV
  obtain ⟨hk, hne, hl5⟩ := valid_links hv
  have HF := Lib.hid (show fmtC l = preC l l.length from by unfold fmtC preC; rw [if_pos hv, List.take_length])
  have HN := Lib.hid (fun i => preC_len hk hl5 i)
  have HK := Lib.hid (fun i (hi : i < l.length) => hk _ (nthL_mem hi))
  have HLW := Lib.hid hL
  have HH := Lib.hid h
  clear hk hv hne ok hL h
  go_enter Tryz.func5, Tryz.ntmps5
  go_wp2_with (go_at_call 11; refine hV.mono ?_; rintro e w1 ⟨rfl, hx1⟩)
  clear hV
  have hb0 : Bld (w1.alloc (.cells #[.pointer none, .slice none 0 0] BldT)) w1.heap.size [] := Lib.IsBuilderF.of (Lib.fresh_isBuilder BldT 5 w1)
  have hw1 := hx1.size
  go_loopw [13] (fun i wr => FoR l w w1.heap.size i wr) (fun i _ => l.length - (intOf i).toNat)
  case atStart => exact ⟨0, by omega, rfl, hb0, hx1.alloc _, by simp⟩
  case round =>
    obtain ⟨k, hk1, rfl, hB, hx, hbw⟩ := hrel
    have c1 : IntKind.i64.wrap ((k : Int) + 1) = (k : Int) + 1 := IntWalk.i64_in _ ⟨by omega, by omega⟩
    by_cases hlt : k < l.length
    · obtain ⟨pb, off, hP, g0, g1, g2, g3⟩ := HH.out.lkAt k hlt
      have hkk := HK.out k hlt
      have HS := Lib.hid (preC_succ l k hlt)
      have n1 := HN.out k
      have n2 := rowCh_len _ hkk
      have ka := keyC_t hkk.a
      have kb := keyC_t hkk.b
      have kc := keyC_t hkk.c
      have kd := keyC_t hkk.d
      subst hP
      replace g0 := hx.cell g0
      replace g1 := hx.cell g1
      replace g2 := hx.cell g2
      replace g3 := hx.cell g3
      have c2 : (k : Int) < l.length := by omega
      clear HN HK HH hb0
      generalize nthL l k = x at *
      obtain ⟨a, b, c, d⟩ := x
      simp only at g0 g1 g2 g3 ka kb kc kd
      generalize preC l k = A at *
      have l1 := itoa_key_lenC hkk.a
      have l2 := itoa_key_lenC hkk.b
      have l3 := itoa_key_lenC hkk.c
      have l4 := itoa_key_lenC hkk.d
      have HZ := Lib.hid (show ∀ q, q ≤ 4 → (A ++ partC (a, b, c, d) q).length ≤ 16031 from fun q hq => by have := partC_le (a, b, c, d) q hq; rw [List.length_append]; omega)
      simp only at l1 l2 l3 l4
      clear hkk
      go_wp2
      have hBa := hB.ext ((Ext.refl wr).alloc (.cells #[.int .i64 a, .int .i64 b, .int .i64 c, .int .i64 d] 33))
      go_loopw [26] (fun i wz => FiR A (a, b, c, d) w w1.heap.size i wz) (fun i _ => 4 - (intOf i).toNat)
      case atStart => exact ⟨0, by omega, rfl, by rw [show partC (a, b, c, d) 0 = [] from rfl, List.append_nil]; exact hBa, hx.alloc _, by simp; omega⟩
      case round =>
        obtain ⟨q, hq1, rfl, hB4, hx4, hbw4⟩ := hrel
        have c3 : IntKind.i64.wrap ((q : Int) + 1) = (q : Int) + 1 := IntWalk.i64_in _ ⟨by omega, by omega⟩
        by_cases hlq : q < 4
        · have hLw := HLW.out
          rcases (show q = 0 ∨ q = 1 ∨ q = 2 ∨ q = 3 by omega) with rfl | rfl | rfl | rfl
          · have hI := fun W hW => itoa_any a (by omega) (by omega) W hW
            have hz0 := HZ.out 0 (by omega)
            have hz1 := HZ.out 1 (by omega)
            go_wp2
            rw [ix_0]
            simp only [Result.andThen]
            rw [Oper.upon_value]
            go_wp2_with (first
              | (go_at_call 14; refine (hI _ (hLw.ext hx4)).mono ?_; rintro e w5 ⟨rfl, hx5⟩; have hB5 := hB4.ext hx5; have hbw5 := hx5.size)
              | (go_at_call 13; refine (wstr_any w w1.heap.size _ (Lib.itoa a) _ hB5 (by omega) (by omega) (by omega) (hx4.trans hx5)).mono ?_; rintro e w6 ⟨rfl, hB6, hx6, hbw6⟩))
            go_roundw
            case rel => exact ⟨1, by omega, by go_num, by simpa [partC] using hB6, hx6, hbw6⟩
            case measure => simp [intOf]
          · have hI := fun W hW => itoa_any b (by omega) (by omega) W hW
            have hz0 := HZ.out 1 (by omega)
            have hz1 := HZ.out 2 (by omega)
            go_wp2
            rw [ix_1]
            simp only [Result.andThen]
            rw [Oper.upon_value]
            go_wp2_with (first
              | (go_at_call 14; refine (hI _ (hLw.ext hx7)).mono ?_; rintro e w5 ⟨rfl, hx5⟩; have hB5 := hB7.ext hx5; have hbw5 := hx5.size)
              | (go_at_call 13; refine (wstr_any w w1.heap.size _ (Lib.itoa b) _ hB5 (by rw [List.length_append]; simp only [List.length_cons, List.length_nil]; omega) (by omega) (by omega) (hx7.trans hx5)).mono ?_; rintro e w6 ⟨rfl, hB6, hx6, hbw6⟩)
              | (go_at_call 12; refine (wbyte_any w w1.heap.size _ 32 _ hB4 (by omega) (by omega) (by omega) hx4).mono ?_; rintro e w7 ⟨rfl, hB7, hx7, hbw7⟩))
            go_roundw
            case rel => exact ⟨2, by omega, by go_num, by simpa [partC] using hB6, hx6, hbw6⟩
            case measure => simp [intOf]
          · have hI := fun W hW => itoa_any c (by omega) (by omega) W hW
            have hz0 := HZ.out 2 (by omega)
            have hz1 := HZ.out 3 (by omega)
            go_wp2
            rw [ix_2]
            simp only [Result.andThen]
            rw [Oper.upon_value]
            go_wp2_with (first
              | (go_at_call 14; refine (hI _ (hLw.ext hx7)).mono ?_; rintro e w5 ⟨rfl, hx5⟩; have hB5 := hB7.ext hx5; have hbw5 := hx5.size)
              | (go_at_call 13; refine (wstr_any w w1.heap.size _ (Lib.itoa c) _ hB5 (by rw [List.length_append]; simp only [List.length_cons, List.length_nil]; omega) (by omega) (by omega) (hx7.trans hx5)).mono ?_; rintro e w6 ⟨rfl, hB6, hx6, hbw6⟩)
              | (go_at_call 12; refine (wbyte_any w w1.heap.size _ 32 _ hB4 (by omega) (by omega) (by omega) hx4).mono ?_; rintro e w7 ⟨rfl, hB7, hx7, hbw7⟩))
            go_roundw
            case rel => exact ⟨3, by omega, by go_num, by simpa [partC] using hB6, hx6, hbw6⟩
            case measure => simp [intOf]
          · have hI := fun W hW => itoa_any d (by omega) (by omega) W hW
            have hz0 := HZ.out 3 (by omega)
            have hz1 := HZ.out 4 (by omega)
            go_wp2
            rw [ix_3]
            simp only [Result.andThen]
            rw [Oper.upon_value]
            go_wp2_with (first
              | (go_at_call 14; refine (hI _ (hLw.ext hx7)).mono ?_; rintro e w5 ⟨rfl, hx5⟩; have hB5 := hB7.ext hx5; have hbw5 := hx5.size)
              | (go_at_call 13; refine (wstr_any w w1.heap.size _ (Lib.itoa d) _ hB5 (by rw [List.length_append]; simp only [List.length_cons, List.length_nil]; omega) (by omega) (by omega) (hx7.trans hx5)).mono ?_; rintro e w6 ⟨rfl, hB6, hx6, hbw6⟩)
              | (go_at_call 12; refine (wbyte_any w w1.heap.size _ 32 _ hB4 (by omega) (by omega) (by omega) hx4).mono ?_; rintro e w7 ⟨rfl, hB7, hx7, hbw7⟩))
            go_roundw
            case rel => exact ⟨4, by omega, by go_num, by simpa [partC] using hB6, hx6, hbw6⟩
            case measure => simp [intOf]
        · obtain rfl : q = 4 := by omega
          go_wp2_with (go_at_call 12; refine (wbyte_any w w1.heap.size _ 10 _ hB4 (by have := HZ.out 4 (by omega); omega) (by omega) (by omega) hx4).mono ?_; rintro e w5 ⟨rfl, hB5, hx5, hbw5⟩)
          go_roundw
          case rel => exact ⟨k + 1, by omega, by go_num, by rw [HS.out, ← partC_all]; exact hB5, hx5, hbw5⟩
          case measure => simp [intOf]; omega
    · obtain rfl : k = l.length := by omega
      go_wp2_with (go_at_call 15; refine (Tryz.Builder_String_any_k w1.heap.size w1.heap.size _ _ hB hbw).mono ?_; rintro e w8 ⟨rfl, hB9, hlo8, hot8⟩)
      go_ret
      exact ⟨by rw [HF.out]; rfl, ext_below hx hlo8 (by omega)⟩
theorem fmt_any (P : Option Addr) (cap : Nat) (l : List Lk) (w : World) (h : SlL w P cap l) (ok : ∀ x ∈ l, OkK x) (hL : LibW w) :
    Calls Tryz.prog 5 #[.slice P l.length cap] w fun e w' => e = .returned (.string (mkB (fmtC l))) ∧ Ext w w' := by
  cases hv : validB l with
  | true => exact fmt_yes P cap l w h ok hv hL
  | false =>
    have hV := valid_any P cap l w h ok
    rw [hv] at hV
    rw [fmtC_no (by rw [hv]; decide)]
    clear hv
    go_enter Tryz.func5, Tryz.ntmps5
    go_wp2_with (go_at_call 11; refine hV.mono ?_; rintro e w1 ⟨rfl, hx1⟩)
    go_ret
    exact ⟨rfl, hx1⟩
end Go.Proofs.YtpobjheodlkkiaaGreatDoor
