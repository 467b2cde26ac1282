/- Areas: play where New refuses. -/
import Derived.Test.YtnileonlabpbpaaGreatQSpBA
namespace Go.Proofs.YtnileonlabpbpaaGreat
open Go.RowKit
set_option linter.unusedVariables false
set_option linter.unusedSimpArgs false
set_option linter.unusedSectionVars false
set_option maxRecDepth 20000

set_option maxHeartbeats 40000000 in
theorem play_no (size pages : Int) (PL : Option Addr) (capL : Nat) (L : List AcS) (w : World) (hsz : inI size) (hpg : inI pages) (hL : SlG csAc w PL capL L) (hok : ∀ x ∈ L, AcOk x) (hLn : L.length ≤ 1000) (hc : ¬ (sizeB size = true ∧ 1 ≤ pages ∧ pages ≤ 200)) :
    Calls Tryz.prog 10 #[.int .i64 size, .int .i64 pages, .slice PL L.length capL] w (PlayPost w) := by
  have hN := fun W => newArea_no size pages W hsz hc
  have hR := fun W => refNew7_no size pages W hsz hc
  have hB := FCell.new 30 w (.pointer none) (.int .i64 0) (.slice none 0 0) (.bool false) (.bool false)
  have hx0 := (Ext.refl w).alloc (.cells #[.pointer none, .int .i64 0, .slice none 0 0, .bool false, .bool false] 30)
  clear hc
  go_enter Tryz.func10, Tryz.ntmps10
  go_wp2_with (first
    | (go_at_call 35; refine (hN _).mono ?_; rintro e w1 ⟨rfl, hx1⟩)
    | (go_at_call 36; refine (hR _).mono ?_; rintro e w2 ⟨rfl, hx2⟩))
  have hx3 := ((Ext.refl w2).alloc (.cells #[.int .i64 0, .slice none 0 0] 28)).alloc (.cells #[.pointer none, .int .i64 0, .slice none 0 0, .bool true, .bool false] 30)
  have hX := FCell.new 30 (w2.alloc (.cells #[.int .i64 0, .slice none 0 0] 28)) (.pointer none) (.int .i64 0) (.slice none 0 0) (.bool true) (.bool false)
  rw [show (w2.alloc (.cells #[.int .i64 0, .slice none 0 0] 28)).heap.size = w2.heap.size + 1 from by simp] at hX
  have hBx := hB.ext (hx1.trans (hx2.trans hx3))
  have hxW := hx0.trans (hx1.trans (hx2.trans hx3))
  generalize (w2.alloc (.cells #[.int .i64 0, .slice none 0 0] 28)).alloc (.cells #[.pointer none, .int .i64 0, .slice none 0 0, .bool true, .bool false] 30) = W3 at *
  go_loopw [12] (fun i wr => i = .int .i64 0 ∧ wr = W3) (fun i _ => 0)
  case atStart => exact ⟨rfl, rfl⟩
  case round =>
    obtain ⟨rfl, rfl⟩ := hrel
    have x2 := hX.cells.2.2.2.1
    have x3 := hX.cells.2.2.2.2
    have x0 := hX.cells.1
    have x1 := hX.cells.2.1
    have x12 := hX.cells.2.2.1
    have y0 := hBx.cells.1
    have y1 := hBx.cells.2.1
    have y2 := hBx.cells.2.2.1
    have y3 := hBx.cells.2.2.2.1
    have y4 := hBx.cells.2.2.2.2
    have z0 := hBx.fr.1
    have z1 := hBx.fr.2.1
    have z2 := hBx.fr.2.2.1
    have z3 := hBx.fr.2.2.2.1
    have z4 := hBx.fr.2.2.2.2
    have hF := ((((hBx.set0 (.pointer none)).set1 (.int .i64 0)).set2 (.slice none 0 0)).set3 (.bool true)).set4 (.bool false)
    have r0 := hF.cells.1
    have r1 := hF.cells.2.1
    have r2 := hF.cells.2.2.1
    have r3 := hF.cells.2.2.2.1
    have r4 := hF.cells.2.2.2.2
    have hu := ((((Upd.setCell wr w.heap.size 0 (.pointer none)).trans (Upd.setCell _ w.heap.size 1 (.int .i64 0))).trans (Upd.setCell _ w.heap.size 2 (.slice none 0 0))).trans (Upd.setCell _ w.heap.size 3 (.bool true))).trans (Upd.setCell _ w.heap.size 4 (.bool false))
    by_cases hl0 : 0 < L.length
    · have c1 : (0 : Int) < L.length := by omega
      go_wp2
      exact bodyPost_ret (v := .agg #[.pointer none, .int .i64 0, .slice none 0 0, .bool true, .bool false]) (by simp [results, Tryz.results10, go_sem, r0, r1, r2, r3, r4]) rfl
        ⟨_, _, _, _, _, false, rfl, Upd.ext hxW hu (Nat.le_refl _), fun h => by cases h⟩
    · have c1 : ¬ (0 : Int) < L.length := by omega
      go_wp2
      exact bodyPost_ret (v := .agg #[.pointer none, .int .i64 0, .slice none 0 0, .bool true, .bool false]) (by simp [results, Tryz.results10, go_sem, r0, r1, r2, r3, r4]) rfl
        ⟨_, _, _, _, _, false, rfl, Upd.ext hxW hu (Nat.le_refl _), fun h => by cases h⟩
end Go.Proofs.YtnileonlabpbpaaGreat
