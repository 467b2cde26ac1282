/- page.cells with what it owns; page.filled of a list that is owned. -/
import Derived.Test.YtnileonlabpbpaaFind
namespace Go.Proofs.Ytnileonlabpbpaa
open Go.RowKit
set_option linter.unusedVariables false
set_option maxRecDepth 20000

theorem cellsOwn_any (p : ByteArray) (w : World) (hv : ValidR p) :
    Calls Try.prog 48 #[.string p] w fun e w' => ∃ v, e = .returned v ∧ w'.ownsRow w.heap.size 85 2 v (usedL p (twoF p 0)).length (flatC (usedL p (twoF p 0))) ∧ Ext w w' := by
  have hz := sizes_of hv
  have hc : (w.alloc (.cells #[.string p] 9)).cell? ⟨w.heap.size, 0, none⟩ = some (.string p) := (Boxed.new w 9 (.string p)).cell
  have hmf : ∀ (fn : Fn) (first cap : Array Value) (w : World), (Instr.makeFunc fn first cap).run Try.prog w = .ok (.func fn first cap) w := fun _ _ _ _ => rfl
  go_enter Try.func48, Try.ntmps48
  go_wp2_with (go_at_call 59; refine (gather_any p _ _ hz.1 hz.2 hv.1.2.2 hc (fun k hk => slot_le hv k hk)).mono ?_; rintro e w1 ⟨v, rfl, hown, hx⟩)
  go_ret
  exact ⟨v, rfl, ownsRow_base hown (by simp), ((Ext.refl w).alloc _).trans hx⟩

/-- cells of a list, by its index -/
theorem nthC_set (l : List Cel) (i : Nat) (c : Cel) (j : Nat) (hi : i < l.length) : nthC (l.set i c) j = if j = i then c else nthC l j := by
  unfold nthC
  rw [List.getD_eq_getElem?_getD, List.getD_eq_getElem?_getD, List.getElem?_set]
  by_cases h : i = j
  · subst h
    simp [hi]
  · rw [if_neg h, if_neg (fun e => h e.symm)]

theorem filled_any (size : Nat) (A : Option Addr) (cap n : Nat) (f : Nat → Cel) (w : World) (hn : n ≤ 200) (hs : SlC w A n f) (hg : ¬ AnyBad f n) (hsz : ∀ i, i < n → (f i).2.size ≤ 140737488355328) (hz : sizeB (size : Int) = true) :
    Calls Try.prog 51 #[.int .i64 size, .slice A n cap] w fun e w' => e = .returned (.tuple #[.string (filledRes size n f).1, .int .i64 (filledRes size n f).2]) ∧ Ext w w' := by
  have hgd := good_of hg hsz
  have hz' : 32 ≤ size ∧ size ≤ 4096 := by simp [sizeB] at hz; omega
  unfold filledRes
  by_cases hr : roomF size f n < 0
  · rw [if_pos hr]
    exact filled_full size A cap n f w hn hs hgd hz'.2 hr
  · rw [if_neg hr]
    have hf := fit_of_good hg hn hz hr
    rcases Nat.eq_zero_or_pos n with h0 | h0
    · subst h0
      exact filled_none size A cap f w hf
    · exact filled_fits size A cap n f w h0 hn hs hgd hf

theorem flatC_set (l : List Cel) : ∀ (i : Nat) (s : ByteArray), i < l.length → flatC (l.set i ((nthC l i).1, s)) = (flatC l).set (i * 2 + 1) (.string s) := by
  induction l with
  | nil => intro i s hi; simp at hi
  | cons c l ih =>
    intro i s hi
    cases i with
    | zero => simp [flatC, nthC]
    | succ i =>
      have e : (i + 1) * 2 + 1 = i * 2 + 1 + 1 + 1 := by omega
      have h := ih i s (by simpa using hi)
      rw [e]
      simp only [List.set_cons_succ]
      have e2 : nthC (c :: l) (i + 1) = nthC l i := rfl
      rw [e2]
      have e3 : ∀ m : List Cel, flatC (c :: m) = .int .i64 c.1 :: .string c.2 :: flatC m := fun m => by simp [flatC]
      rw [e3, e3, h]
      simp
end Go.Proofs.Ytnileonlabpbpaa
