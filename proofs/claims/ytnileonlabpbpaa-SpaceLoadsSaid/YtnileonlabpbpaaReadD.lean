/- Free and Next, of the program and of the reference. -/
import Derived.Test.YtnileonlabpbpaaReadC
import Derived.Laws.EntriesVeiled
namespace Go.Proofs.Ytnileonlabpbpaa
open Go.RowKit
set_option linter.unusedVariables false
set_option maxRecDepth 20000

theorem sizes_of {p : ByteArray} (hv : ValidR p) : 32 ≤ p.size ∧ p.size ≤ 4096 := by have := hv.1.1; simp [sizeB] at this; omega
theorem cel_size {p : ByteArray} (hv : ValidR p) : ∀ i, i < cnt p → (cel p i).2.size ≤ 140737488355328 := fun i hi => by
  have h1 := cel_sum hv
  have h2 := bytesF_mono (cel p) (show i + 1 ≤ cnt p by omega)
  have h3 : bytesF (cel p) (i + 1) = bytesF (cel p) i + (cel p i).2.size := rfl
  have := sizes_of hv
  omega
theorem cells_of (p : ByteArray) (w : World) (hv : ValidR p) :
    Calls Try.prog 48 #[.string p] w fun e w' => ∃ A cap, e = .returned (.slice A (cnt p) cap) ∧ SlC w' A (cnt p) (cel p) ∧ Ext w w' := cells_any p w hv

theorem quantities_any (w : World) :
    Calls Try.prog 54 #[] w fun e w' => e = .returned (.agg #[.func (.func 66) #[] #[], .func (.func 67) #[] #[]]) ∧ Ext w w' := by
  go_enter Try.func54, Try.ntmps54
  go_wp2
  exact bodyPost_ret (v := .agg #[.func (.func 66) #[] #[], .func (.func 67) #[] #[]]) (by simp [results, Try.results54, go_sem]) rfl ⟨rfl, (Ext.refl w).alloc _⟩
theorem quantity1_any (size : Int) (A : Option Addr) (cap n : Nat) (f : Nat → Cel) (w : World) (hz0 : 0 ≤ size) (hz1 : size ≤ 4096) (hn : n ≤ 200) (hs : SlC w A n f) (hsz : ∀ i, i < n → (f i).2.size ≤ 140737488355328) (hl0 : -4096 ≤ lastF f n) (hl1 : lastF f n ≤ 4096) :
    Calls Try.prog 66 #[.int .i64 size, .slice A n cap] w fun e w' => e = .returned (.int .i64 (roomF size f n)) ∧ Ext w w' := by
  have hb := bytesF_le f n hsz
  have hmul : n * 140737488355328 ≤ 200 * 140737488355328 := Nat.mul_le_mul_right _ (by omega)
  have hr : needsF f n = 2 + 4 * lastF f n + bytesF f n := rfl
  go_enter Try.func66, Try.ntmps66
  go_wp2_with (go_at_call 63; refine (needs_any A cap n f _ hn hs hsz hl0 hl1).mono ?_; rintro e w1 ⟨rfl, hx1⟩)
  go_ret
  exact ⟨ret_int (by unfold roomF; omega), hx1⟩

def quantV : Value := .agg #[.func (.func 66) #[] #[], .func (.func 67) #[] #[]]
theorem index0 (w : World) : (Instr.index 92 (.agg #[.func (.func 66) #[] #[], .func (.func 67) #[] #[]]) (.int .i64 0)).run Try.prog w = .ok (.func (.func 66) #[] #[]) w := by kernel_rfl
theorem index1 (w : World) : (Instr.index 92 (.agg #[.func (.func 66) #[] #[], .func (.func 67) #[] #[]]) (.int .i64 1)).run Try.prog w = .ok (.func (.func 67) #[] #[]) w := by kernel_rfl
theorem free_ok (p : ByteArray) (w : World) (hv : ValidR p) :
    Calls Try.prog 37 #[.string p] w fun e w' => e = .returned (.tuple #[.int .i64 (roomF p.size (cel p) (cnt p)), .int .i64 0]) ∧ Ext w w' := by
  obtain ⟨z1, z2⟩ := sizes_of hv
  have hl := cel_last hv
  have hl0 : -4096 ≤ lastF (cel p) (cnt p) := by rw [hl]; omega
  have hl1 : lastF (cel p) (cnt p) ≤ 4096 := by rw [hl]; have := hv.1.2.1; omega
  have hC := fun W => cells_of p W hv
  have hS := cel_size hv
  have hn := cnt_le hv
  clear hl
  generalize cnt p = n at *
  generalize cel p = f at *
  have hix := index0
  go_enter Try.func37, Try.ntmps37
  go_wp2_with (first
    | (go_at_call 44; refine (valid_any p _ (by omega)).mono ?_; rintro e w1 ⟨rfl, hx1⟩; rw [decide_eq_true hv])
    | (go_at_call 54; refine (quantities_any _).mono ?_; rintro e w2 ⟨rfl, hx2⟩)
    | (go_at_call 48; refine (hC _).mono ?_; rintro e w3 ⟨A, cap, rfl, hs, hx3⟩)
    | (go_at_call 66; refine (quantity1_any p.size A cap n f _ (by omega) (by omega) hn hs hS hl0 hl1).mono ?_; rintro e w4 ⟨rfl, hx4⟩))
  go_ret2
  exact ⟨rfl, ((hx1.trans hx2).trans hx3).trans hx4⟩
theorem free_no (p : ByteArray) (w : World) (hp : p.size ≤ 140737488355328) (hv : ¬ ValidR p) :
    Calls Try.prog 37 #[.string p] w fun e w' => e = .returned (.tuple #[.int .i64 0, .int .i64 1]) ∧ Ext w w' := by
  go_enter Try.func37, Try.ntmps37
  go_wp2_with (go_at_call 44; refine (valid_any p _ hp).mono ?_; rintro e w1 ⟨rfl, hx1⟩; rw [decide_eq_false hv])
  go_ret2
  exact ⟨rfl, hx1⟩


end Go.Proofs.Ytnileonlabpbpaa
