/- Arrays: awake of the law. -/
import Derived.Test.YtgdbhmdhonnmgaaDoorArK
namespace Go.Proofs.YtgdbhmdhonnmgaaDoor
open Go.RowKit Go.Maps
set_option linter.unusedVariables false
set_option maxRecDepth 20000
set_option linter.unusedSimpArgs false
set_option maxRecDepth 20000
attribute [local go_sem] Oper.semAt_some

theorem SlI.block {W : World} {g : Nat} {l : List Int} (h : W.heap[g]? = some (.cells (intVs l).toArray 3 (0, 0))) (hl : l.length ≤ 1000) : SlI W (some ⟨g, 0, none⟩) l.length l := by
  refine ⟨fun i hi => ⟨g, 0, rfl, ?_⟩, Nat.le_refl _, by omega⟩
  rw [Nat.zero_add]
  have := intVs_get l i hi
  simp [World.cell?, h, this]
theorem slA_built (w : World) : SlA (((w.alloc (.cells #[.int .i64 1, .int .i64 2, .int .i64 3] 3)).alloc (.cells #[.int .i64 4, .int .i64 5] 3)).alloc (.cells #[.slice (some ⟨w.heap.size, 0, none⟩) 3 3, .slice (some ⟨w.heap.size + 1, 0, none⟩) 2 2] 31)) (some ⟨w.heap.size + 1 + 1, 0, none⟩) 2
    (fun i => if i = 0 then some ⟨w.heap.size, 0, none⟩ else some ⟨w.heap.size + 1, 0, none⟩) (fun i => if i = 0 then 3 else 2) [[1, 2, 3], [4, 5]] := by
  obtain ⟨W1, hW1⟩ : ∃ W1, w.alloc (.cells #[.int .i64 1, .int .i64 2, .int .i64 3] 3) = W1 := ⟨_, rfl⟩
  obtain ⟨W2, hW2⟩ : ∃ W2, W1.alloc (.cells #[.int .i64 4, .int .i64 5] 3) = W2 := ⟨_, rfl⟩
  have h1 : W1.heap.size = w.heap.size + 1 := by rw [← hW1, World.size_alloc]
  have h2 : W2.heap.size = w.heap.size + 1 + 1 := by rw [← hW2, World.size_alloc, h1]
  have g1 : W1.heap[w.heap.size]? = some (.cells (intVs [1, 2, 3]).toArray 3 (0, 0)) := by rw [← hW1]; exact World.alloc_heap_new _ _
  have g2 : W2.heap[w.heap.size + 1]? = some (.cells (intVs [4, 5]).toArray 3 (0, 0)) := by rw [← hW2, ← h1]; exact World.alloc_heap_new _ _
  have hx1 : Ext W1 W2 := by rw [← hW2]; exact (Ext.refl _).alloc _
  rw [hW1, hW2]
  have g3 : (W2.alloc (.cells #[.slice (some ⟨w.heap.size, 0, none⟩) 3 3, .slice (some ⟨w.heap.size + 1, 0, none⟩) 2 2] 31)).heap[w.heap.size + 1 + 1]? = some (.cells #[.slice (some ⟨w.heap.size, 0, none⟩) 3 3, .slice (some ⟨w.heap.size + 1, 0, none⟩) 2 2] 31 (0, 0)) := by rw [← h2]; exact World.alloc_heap_new _ _
  have hx2 : Ext W2 (W2.alloc (.cells #[.slice (some ⟨w.heap.size, 0, none⟩) 3 3, .slice (some ⟨w.heap.size + 1, 0, none⟩) 2 2] 31)) := (Ext.refl _).alloc _
  refine ⟨fun i hi => ⟨_, 0, rfl, ?_⟩, fun i hi => ?_, by simp, by omega⟩
  · match i, hi with
    | 0, _ => simp [World.cell?, g3, nthA]
    | 1, _ => simp [World.cell?, g3, nthA]
  · match i, hi with
    | 0, _ => exact SlI.block (hx2.heap (hx1.heap g1)) (by simp)
    | 1, _ => exact SlI.block (hx2.heap g2) (by simp)

theorem awake_any (w : World) : Calls Tryd.prog 5 #[] w fun e w' => e = .returned (.bool true) ∧ Ext w w' := by
  have hyes := makeE_yes (b := 4) (l := [1, 2, 3, 4, 5]) ⟨by decide, by decide, by decide⟩ rfl
  have hF : makeF 4 [1, 2, 3, 4, 5] 5 = [[1, 2, 3], [4, 5]] := by decide
  have hM := fun W h => make_any 4 (some ⟨w.heap.size, 0, none⟩) 5 [1, 2, 3, 4, 5] W h (by intro x hx; simp at hx; unfold In64; omega) (by simp)
  have hx1 : Ext w (w.alloc (.cells #[.int .i64 1, .int .i64 2, .int .i64 3, .int .i64 4, .int .i64 5] 3)) := (Ext.refl _).alloc _
  have hs : SlI (w.alloc (.cells #[.int .i64 1, .int .i64 2, .int .i64 3, .int .i64 4, .int .i64 5] 3)) (some ⟨w.heap.size, 0, none⟩) 5 [1, 2, 3, 4, 5] := SlI.block (l := [1, 2, 3, 4, 5]) (World.alloc_heap_new _ _) (by simp)
  have hM1 := hM _ hs
  unfold MakePost at hM1
  rw [hyes.1, hyes.2] at hM1
  clear hM hs hyes
  go_enter Tryd.func5, Tryd.ntmps5
  go_wp2_with (first
    | (go_at_call 11; refine hM1.mono ?_; rintro e w1 ⟨v, RR, rfl, hO, hRR, hxm⟩; obtain ⟨P, cap, Q, C, rfl, hA⟩ := hO.read; rw [hRR] at hA; replace hA : SlA w1 P cap Q C [[1, 2, 3], [4, 5]] := by rw [← hF]; exact hA)
    | (go_at_call 9; refine (sameBlocks_any _ _ _ _ _ _ _ _ [[1, 2, 3], [4, 5]] [[1, 2, 3], [4, 5]] _ (by exact (((hA.ext ((Ext.refl _).alloc _)).ext ((Ext.refl _).alloc _)).ext ((Ext.refl _).alloc _))) (by exact slA_built _)).mono ?_; rintro e w2 ⟨rfl, hx2⟩))
  go_ret
  exact ⟨rfl, hx1.trans (hxm.trans (((((Ext.refl _).alloc _).alloc _).alloc _).trans hx2))⟩

/-- the sum of light -/
def lightN (LL : List (List Int)) : Nat → Int
  | 0 => 0
  | k + 1 => wrap64 (wrap64 (lightN LL k + (nthA LL k).length) + 1)
def lightB (LL : List (List Int)) : Bool := decide (lightN LL LL.length ≤ 300)
theorem light_is (P : Option Addr) (cap : Nat) (Q : Nat → Option Addr) (C : Nat → Nat) (LL : List (List Int)) (w : World) (h : SlA w P cap Q C LL) :
    Calls Tryd.prog 4 #[.slice P LL.length cap] w fun e w' => e = .returned (.bool (lightB LL)) ∧ w = w' := by
  have hlen := h.len
  have HB := Lib.hid (show lightB LL = decide (lightN LL LL.length ≤ 300) from rfl)
  go_enter Tryd.func4, Tryd.ntmps4
  go_wp2
  go_loop [4, 3] (fun i n => ∃ (k : Nat), k ≤ LL.length ∧ i = .int .i64 k ∧ n = .int .i64 (lightN LL k)) (fun i _ => LL.length - (intOf i).toNat)
  case atStart => exact ⟨0, by omega, rfl, rfl⟩
  case round =>
    obtain ⟨k, hk, rfl, rfl⟩ := hrel
    by_cases hlt : k < LL.length
    · obtain ⟨b, off, hP, hc⟩ := h.at_ k hlt
      have c1 : (k : Int) < LL.length := by omega
      have Hs := Lib.hid (show lightN LL (k + 1) = wrap64 (wrap64 (lightN LL k + (nthA LL k).length) + 1) from rfl)
      generalize lightN LL k = n0 at *
      subst hP
      go_wp2
      go_round
      case rel => exact ⟨k + 1, by omega, by go_num, by rw [Hs.out]⟩
      case measure => simp [intOf]; omega
    · obtain rfl : k = LL.length := by omega
      generalize lightN LL LL.length = n0 at *
      go_wp2
      go_ret
      exact ⟨by rw [HB.out]; rfl, rfl⟩
end Go.Proofs.YtgdbhmdhonnmgaaDoor
