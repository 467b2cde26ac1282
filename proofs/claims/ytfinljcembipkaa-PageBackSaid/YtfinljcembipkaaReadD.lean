/- Free and Next, of the program and of the reference. -/
import Derived.Test.YtfinljcembipkaaReadC
import Derived.Laws.EntriesVeiled
namespace Go.Proofs.Ytfinljcembipkaa
open Go.RowKit
set_option linter.unusedVariables false

theorem sizes_of {p : ByteArray} (hv : ValidR p) : 32 ≤ p.size ∧ p.size ≤ 4096 := by have := hv.1.1; simp [sizeB] at this; omega
theorem cel_size {p : ByteArray} (hv : ValidR p) : ∀ i, i < cnt p → (cel p i).2.size ≤ 140737488355328 := fun i hi => by
  have h1 := cel_sum hv
  have h2 := bytesF_mono (cel p) (show i + 1 ≤ cnt p by omega)
  have h3 : bytesF (cel p) (i + 1) = bytesF (cel p) i + (cel p i).2.size := rfl
  have := sizes_of hv
  omega
theorem cells_of (p : ByteArray) (w : World) (hv : ValidR p) :
    Calls Try.prog 45 #[.string p] w fun e w' => ∃ A cap, e = .returned (.slice A (cnt p) cap) ∧ SlC w' A (cnt p) (cel p) ∧ Ext w w' := cells_any p w hv
theorem refCells_of (p : ByteArray) (w : World) (hv : ValidR p) :
    Calls Try.prog 22 #[.string p] w fun e w' => ∃ A cap, e = .returned (.tuple #[.slice A (cnt p) cap, .int .i64 0]) ∧ SlC w' A (cnt p) (cel p) ∧ Ext w w' := refCells_ok p w hv

theorem quantities_any (w : World) :
    Calls Try.prog 59 #[] w fun e w' => e = .returned (.agg #[.func (.func 76) #[] #[], .func (.func 77) #[] #[]]) ∧ Ext w w' := by
  go_enter Try.func59, Try.ntmps59
  go_wp2
  exact bodyPost_ret (v := .agg #[.func (.func 76) #[] #[], .func (.func 77) #[] #[]]) (by simp [results, Try.results59, go_sem]) rfl ⟨rfl, (Ext.refl w).alloc _⟩
theorem quantity1_any (size : Int) (A : Option Addr) (cap n : Nat) (f : Nat → Cel) (w : World) (hz0 : 0 ≤ size) (hz1 : size ≤ 4096) (hn : n ≤ 200) (hs : SlC w A n f) (hsz : ∀ i, i < n → (f i).2.size ≤ 140737488355328) (hl0 : -4096 ≤ lastF f n) (hl1 : lastF f n ≤ 4096) :
    Calls Try.prog 76 #[.int .i64 size, .slice A n cap] w fun e w' => e = .returned (.int .i64 (roomF size f n)) ∧ Ext w w' := by
  have hb := bytesF_le f n hsz
  have hmul : n * 140737488355328 ≤ 200 * 140737488355328 := Nat.mul_le_mul_right _ (by omega)
  have hr : needsF f n = 2 + 4 * lastF f n + bytesF f n := rfl
  go_enter Try.func76, Try.ntmps76
  go_wp2_with (go_at_call 72; refine (needs_any A cap n f _ hn hs hsz hl0 hl1).mono ?_; rintro e w1 ⟨rfl, hx1⟩)
  go_ret
  exact ⟨ret_int (by unfold roomF; omega), hx1⟩

def quantV : Value := .agg #[.func (.func 76) #[] #[], .func (.func 77) #[] #[]]
theorem index0 (w : World) : (Instr.index 70 (.agg #[.func (.func 76) #[] #[], .func (.func 77) #[] #[]]) (.int .i64 0)).run Try.prog w = .ok (.func (.func 76) #[] #[]) w := by kernel_rfl
theorem index1 (w : World) : (Instr.index 70 (.agg #[.func (.func 76) #[] #[], .func (.func 77) #[] #[]]) (.int .i64 1)).run Try.prog w = .ok (.func (.func 77) #[] #[]) w := by kernel_rfl
theorem free_ok (p : ByteArray) (w : World) (hv : ValidR p) :
    Calls Try.prog 24 #[.string p] w fun e w' => e = .returned (.tuple #[.int .i64 (roomF p.size (cel p) (cnt p)), .int .i64 0]) ∧ Ext w w' := by
  obtain ⟨z1, z2⟩ := sizes_of hv
  have hl := cel_last hv
  have hl0 : -4096 ≤ lastF (cel p) (cnt p) := by rw [hl]; omega
  have hl1 : lastF (cel p) (cnt p) ≤ 4096 := by rw [hl]; have := hv.1.2.1; omega
  have hC := fun W => cells_of p W hv
  have hS := cel_size hv
  have hn := cnt_le hv
  clear hl
  generalize cnt p = n at *
  generalize cel p = f at *
  have hix := index0
  go_enter Try.func24, Try.ntmps24
  go_wp2_with (first
    | (go_at_call 20; refine (valid_any p _ (by omega)).mono ?_; rintro e w1 ⟨rfl, hx1⟩; rw [decide_eq_true hv])
    | (go_at_call 59; refine (quantities_any _).mono ?_; rintro e w2 ⟨rfl, hx2⟩)
    | (go_at_call 45; refine (hC _).mono ?_; rintro e w3 ⟨A, cap, rfl, hs, hx3⟩)
    | (go_at_call 76; refine (quantity1_any p.size A cap n f _ (by omega) (by omega) hn hs hS hl0 hl1).mono ?_; rintro e w4 ⟨rfl, hx4⟩))
  go_ret2
  exact ⟨rfl, ((hx1.trans hx2).trans hx3).trans hx4⟩
theorem free_no (p : ByteArray) (w : World) (hp : p.size ≤ 140737488355328) (hv : ¬ ValidR p) :
    Calls Try.prog 24 #[.string p] w fun e w' => e = .returned (.tuple #[.int .i64 0, .int .i64 1]) ∧ Ext w w' := by
  go_enter Try.func24, Try.ntmps24
  go_wp2_with (go_at_call 20; refine (valid_any p _ hp).mono ?_; rintro e w1 ⟨rfl, hx1⟩; rw [decide_eq_false hv])
  go_ret2
  exact ⟨rfl, hx1⟩
theorem refFree_ok (p : ByteArray) (w : World) (hv : ValidR p) :
    Calls Try.prog 25 #[.string p] w fun e w' => e = .returned (.tuple #[.int .i64 (roomF p.size (cel p) (cnt p)), .int .i64 0]) ∧ Ext w w' := by
  obtain ⟨z1, z2⟩ := sizes_of hv
  have hl := cel_last hv
  have hl0 : -4096 ≤ lastF (cel p) (cnt p) := by rw [hl]; omega
  have hl1 : lastF (cel p) (cnt p) ≤ 4096 := by rw [hl]; have := hv.1.2.1; omega
  have hC := fun W => refCells_of p W hv
  have hS := cel_size hv
  have hn := cnt_le hv
  clear hl
  generalize cnt p = n at *
  generalize cel p = f at *
  go_enter Try.func25, Try.ntmps25
  go_wp2_with (first
    | (go_at_call 22; refine (hC _).mono ?_; rintro e w3 ⟨A, cap, rfl, hs, hx3⟩)
    | (go_at_call 51; refine (refRoom_any p.size A cap n f _ hn hs hS hl0 hl1 (by omega) (by omega)).mono ?_; rintro e w4 ⟨rfl, rfl⟩))
  go_ret2
  exact ⟨rfl, hx3⟩
theorem refFree_no (p : ByteArray) (w : World) (hp : p.size ≤ 140737488355328) (hv : ¬ ValidR p) :
    Calls Try.prog 25 #[.string p] w fun e w' => e = .returned (.tuple #[.int .i64 0, .int .i64 1]) ∧ Ext w w' := by
  go_enter Try.func25, Try.ntmps25
  go_wp2_with (go_at_call 22; refine (refCells_no p _ hp hv).mono ?_; rintro e w1 ⟨rfl, hx1⟩)
  go_ret2
  exact ⟨rfl, hx1⟩
end Go.Proofs.Ytfinljcembipkaa
