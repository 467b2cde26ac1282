/- SpaceLoads, the walk. -/
import Derived.Test.YtnileonlabpbpaaSpL
import Derived.Test.YtnileonlabpbpaaSpM
namespace Go.Proofs.Ytnileonlabpbpaa
open Go.RowKit
set_option linter.unusedVariables false
set_option linter.unusedSimpArgs false
set_option maxRecDepth 20000

/-- an error and no area, or no error and an area -/
def CodeOk (r : LdR) : Prop := (r.2.2 = none ∧ r.2.1 ≠ 0) ∨ (r.2.2 ≠ none ∧ r.2.1 = 0)
theorem CodeOk.no (a : Int) : CodeOk (a, 12, none) := .inl ⟨rfl, (by simp)⟩
theorem levS_code (s : ByteArray) (n size : Nat) (l : List ByteArray) : ∀ d i, CodeOk (levS s n size l d i)
  | 0, i => by
    by_cases h : 8 + n + n * size < s.size
    · rw [lev_long h]; exact .no _
    · rw [lev_end h]; exact .inr ⟨by simp, rfl⟩
  | d + 1, i => by
    by_cases h : bt s (8 + i) = levP size (nthB l i)
    · rw [lev_yes h]; exact levS_code s n size l d (i + 1)
    · rw [lev_no h]; exact .no _
theorem pageS_code (s : ByteArray) (hs : s.size ≤ 140737488355328) (n size : Nat) : ∀ d i l, CodeOk (pageS s hs n size d i l)
  | 0, i, l => levS_code s n size l n 0
  | d + 1, i, l => by
    by_cases h : s.size < 8 + n + i * size + size
    · rw [page_short h]; exact .no _
    · by_cases h1 : ValidR (pageAt s n size i)
      · rw [page_yes h h1]; exact pageS_code s hs n size d (i + 1) _
      · rw [page_no h h1]; exact .no _
theorem headS_code (s : ByteArray) (hs : s.size ≤ 140737488355328) : CodeOk (headS s hs) := by
  by_cases h : s.size < 6
  · rw [head_six h]; exact .no _
  · by_cases h1 : sizeB (twoF s 4) = false
    · rw [head_size h h1]; exact .no _
    · by_cases h2 : s.size < 8
      · rw [head_eight h h1 h2]; exact .no _
      · by_cases h3 : 1 ≤ twoF s 6 ∧ twoF s 6 ≤ 200
        · rw [head_ok h h1 h2 h3]; exact pageS_code _ _ _ _ _ _ _
        · rw [head_count h h1 h2 h3]; exact .no _
theorem markS_code (s : ByteArray) (hs : s.size ≤ 140737488355328) : ∀ d i, CodeOk (markS s hs d i)
  | 0, i => headS_code s hs
  | d + 1, i => by
    by_cases h : i < s.size ∧ bt s i = markB i
    · rw [markS_yes h.1 h.2]; exact markS_code s hs d (i + 1)
    · rw [markS_no h]; exact .no _
theorem loadF_code (s : ByteArray) (hs : s.size ≤ 140737488355328) : CodeOk (loadF s hs) := by
  by_cases h : 900000 < s.size
  · rw [show loadF s hs = (0, 3, none) from if_pos h]; exact .inl ⟨rfl, (by simp)⟩
  · rw [show loadF s hs = markS s hs 4 0 from if_neg h]; exact markS_code s hs 4 0

set_option maxHeartbeats 1000000 in
theorem loads_any (s : ByteArray) (w : World) (hs : s.size ≤ 140737488355328) :
    Calls Try.prog 3 #[.string s] w fun e w' => e = .returned (.bool true) ∧ Ext w w' := by
  by_cases hl : 6000 < s.size
  · have d1 : (6000 : Int) < s.size := by omega
    go_enter Try.func3, Try.ntmps3
    go_wp2_with (go_at_call 4; refine (sawake_any _).mono ?_; rintro e w1 ⟨rfl, hx1⟩)
    go_ret
    exact ⟨rfl, hx1⟩
  · have d1 : ¬ (6000 : Int) < s.size := by omega
    have hL := load_any s hs w
    have hR := fun W => rload_any s hs W
    have hC := loadF_code s hs
    have hG := agree_yes
    generalize loadF s hs = r at *
    obtain ⟨a, c, o⟩ := r
    cases o with
    | none =>
      have hc : c ≠ 0 := by rcases hC with h | h; exact h.2; exact absurd rfl h.1
      have d2 : (c == 0) = false := by simpa using hc
      have d3 : (c != 0) = true := by simpa using hc
      clear hC hc
      go_enter Try.func3, Try.ntmps3
      go_wp2_with fail
      refine hL.mono ?_
      rintro e w1 ⟨ptr, rfl, hx1, h1⟩
      simp only at h1
      subst h1
      go_wp2_with fail
      refine (hR _).mono ?_
      rintro e w2 ⟨v, rfl, hx2, h2⟩
      simp only at h2
      subst h2
      have hx12 := hx1.trans hx2
      go_wp2_with (go_at_call 4; refine (sawake_any _).mono ?_; rintro e w3 ⟨rfl, hx3⟩)
      go_ret
      exact ⟨rfl, (hx12.alloc _).trans hx3⟩
    | some x =>
      obtain ⟨size, l⟩ := x
      have hc : c = 0 := by rcases hC with h | h; exact absurd h.1 (by simp); exact h.2
      subst hc
      clear hC
      go_enter Try.func3, Try.ntmps3
      go_wp2_with fail
      refine hL.mono ?_
      rintro e w1 ⟨ptr, rfl, hx1, h1⟩
      simp only at h1
      obtain ⟨A, g, lv, cap, rfl, hS, _, _⟩ := h1
      go_wp2_with fail
      refine (hR _).mono ?_
      rintro e w2 ⟨v, rfl, hx2, h2⟩
      simp only at h2
      obtain ⟨P, capR, rfl, hA⟩ := h2
      have hx12 := hx1.trans hx2
      have hS2 := hS.ext hx2
      go_wp2_with (first
        | (go_at_call 7; refine (hG A g size cap l lv P capR _ (by exact hS2.ext ((Ext.refl w2).alloc _)) (by exact hA.ext ((Ext.refl w2).alloc _))).mono ?_; rintro e w3 ⟨rfl, hx3⟩; have hx13 := Ext.trans (hx12.alloc _) hx3)
        | (go_at_call 4; refine (sawake_any _).mono ?_; rintro e w4 ⟨rfl, hx4⟩))
      go_ret
      exact ⟨rfl, hx13.trans hx4⟩
end Go.Proofs.Ytnileonlabpbpaa
