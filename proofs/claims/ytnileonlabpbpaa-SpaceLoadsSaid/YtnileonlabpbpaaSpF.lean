/- Areas: Get; change. -/
import Derived.Test.YtnileonlabpbpaaSpE
namespace Go.Proofs.Ytnileonlabpbpaa
open Go.RowKit
set_option linter.unusedVariables false
set_option maxRecDepth 20000
set_option maxRecDepth 20000

section
variable (A g size cap : Nat) (l : List ByteArray) (lv : List UInt8) (x line : Int) (w : World) (h : Sp w A g size l lv cap)
include h
theorem sget_range (hx : ¬ (0 ≤ x ∧ x < l.length)) :
    Calls Try.prog 10 #[.pointer (some ⟨A, 0, none⟩), .agg #[.int .i64 x, .int .i64 line]] w fun e w' => e = two2 (⟨#[]⟩, 7) ∧ Ext w w' := by
  have hle := h.le
  have hA := fun W hW => asked_is A lv size (some ⟨g, 0, none⟩) l.length cap x W hW (by omega)
  rw [if_neg hx] at hA
  go_enter Try.func10, Try.ntmps10
  go_wp2_with (go_at_call 30; refine (hA _ (by exact (h.ext ((Ext.refl w).alloc _)).ar)).mono ?_; rintro e w1 ⟨rfl, rfl⟩)
  go_ret2
  exact ⟨rfl, (Ext.refl w).alloc _⟩
theorem sget_in (q : Nat) (hq : q < l.length) (hx : x = q) (r : ByteArray × Int) (hG : ∀ W, Calls Try.prog 31 #[.string (nthB l q), .int .i64 line] W fun e w' => e = two2 r ∧ Ext W w') :
    Calls Try.prog 10 #[.pointer (some ⟨A, 0, none⟩), .agg #[.int .i64 x, .int .i64 line]] w fun e w' => e = two2 r ∧ Ext w w' := by
  subst hx
  have hle := h.le
  have hA := fun W hW => asked_is A lv size (some ⟨g, 0, none⟩) l.length cap q W hW (by omega)
  rw [if_pos ⟨by omega, by omega⟩] at hA
  have c1 : (q : Int) < l.length := by omega
  have hxa := (Ext.refl w).alloc (.cells #[.int .i64 (q : Int), .int .i64 line] 37)
  have h1 := h.ext hxa
  obtain ⟨b0, b1, _, _⟩ := addr_box (.int .i64 (q : Int)) (.int .i64 line) (Ext.refl (w.alloc (.cells #[.int .i64 (q : Int), .int .i64 line] 37)))
  have g1 := h1.ar.pagesC
  have g2 := nthCell h1 q hq
  obtain ⟨ra, rb⟩ := r
  simp only [two2] at hG ⊢
  have hA1 := hA _ h1.ar
  generalize hW1 : w.alloc (.cells #[.int .i64 (q : Int), .int .i64 line] 37) = W1 at *
  go_enter Try.func10, Try.ntmps10
  go_wp2_with (go_at_call 30; refine hA1.mono ?_; rintro e w1 ⟨rfl, rfl⟩)
  go_region_held3 (fun w' => w'.cell? ⟨w.heap.size, 0, none⟩ = some (.int .i64 (q : Int)) ∧ w'.cell? ⟨w.heap.size, 1, none⟩ = some (.int .i64 line) ∧ w'.cell? ⟨A, 201, none⟩ = some (.slice (some ⟨g, 0, none⟩) l.length cap) ∧ w'.cell? ⟨g, q, none⟩ = some (.string (nthB l q))) (go_keep)
    (first | (go_at_call 31; refine (hG _).mono ?_; rintro e w5 ⟨rfl, hx5⟩; have m1 := hx5.cell (p := ⟨w.heap.size, 0, none⟩) (v := .int .i64 (q : Int)) (by exact b0); have m2 := hx5.cell (p := ⟨w.heap.size, 1, none⟩) (v := .int .i64 line) (by exact b1); have m3 := hx5.cell (p := ⟨A, 201, none⟩) (v := .slice (some ⟨g, 0, none⟩) l.length cap) (by exact g1); have m4 := hx5.cell (p := ⟨g, q, none⟩) (v := .string (nthB l q)) (by exact g2); have m5 := Ext.trans (Ext.drew hxa) hx5))
  all_goals (
    go_wp2
    go_ret2
    exact ⟨rfl, m5⟩)
end

/-- the pages behind a change -/
def newPages (l : List ByteArray) (q : Nat) (r : ByteArray × Int) : List ByteArray := if r.2 = 0 then l.set q r.1 else l


theorem bytesF_small {p : ByteArray} (hv : ValidR p) : p.size ≤ 140737488355328 := by have := (sizes_of hv).2; omega




section
variable (A g size cap : Nat) (l : List ByteArray) (lv : List UInt8) (x line : Int) (s : ByteArray) (w : World) (h : Sp w A g size l lv cap)
include h






end


end Go.Proofs.Ytnileonlabpbpaa
