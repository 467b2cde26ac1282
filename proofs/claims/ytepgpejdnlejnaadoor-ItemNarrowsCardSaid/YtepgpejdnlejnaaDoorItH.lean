/- Rows and items: whether they are valid. -/
import Derived.Test.YtepgpejdnlejnaaDoorItG
namespace Go.Proofs.YtepgpejdnlejnaaDoor
open Go.RowKit
set_option linter.unusedVariables false
set_option linter.unusedSimpArgs false
set_option linter.unusedSectionVars false
set_option maxRecDepth 20000
attribute [local go_sem] Oper.semAt_some

def rowB (l : List Vl) : Bool := l.all valB && decide (l.length ≤ 8)
theorem all_take {α : Type} {p : α → Bool} {l : List α} {i : Nat} {x : α} (hx : l[i]? = some x) (h : (l.take i).all p = true) (hp : p x = true) : (l.take (i + 1)).all p = true := by
  rw [List.take_add_one, List.all_append, h, hx]
  simp [hp]
theorem all_no {α : Type} {p : α → Bool} {l : List α} {i : Nat} {x : α} (hx : l[i]? = some x) (hp : p x = false) : l.all p = false := by
  rw [List.all_eq_false]
  exact ⟨x, List.mem_of_getElem? hx, by simp [hp]⟩
theorem rrow_any (P : Option Addr) (cap : Nat) (l : List Vl) (w : World) (h : SlV w P cap l) :
    Calls Tryd.prog 19 #[.slice P l.length cap] w fun e w' => e = .returned (.bool (rowB l)) ∧ Ext w w' := by
  have hlen := h.len
  go_enter Tryd.func19, Tryd.ntmps19
  go_wp2
  go_loopw [3] (fun i wr => ∃ k : Nat, k ≤ l.length ∧ i = .int .i64 k ∧ (l.take k).all valB = true ∧ Ext w wr) (fun i _ => l.length - (intOf i).toNat)
  case atStart => exact ⟨0, by omega, rfl, by simp, Ext.refl w⟩
  case round =>
    obtain ⟨k, hk, rfl, hall, hx⟩ := hrel
    by_cases hlt : k < l.length
    · obtain ⟨b, off, hP, g0, g1, g2⟩ := h.valAt k hlt
      subst hP
      have g0 := hx.cell g0
      have g1 := hx.cell g1
      have g2 := hx.cell g2
      have c1 : (k : Int) < l.length := by omega
      have hs := nthV_some hlt
      have d1 : IntKind.i64.wrap ((k : Int) + 1) = (k : Int) + 1 := IntWalk.i64_in _ ⟨by omega, by omega⟩
      have hV := fun W => rvalue_any (nthV l k) W
      unfold Vl.v at hV
      cases hv : valB (nthV l k) with
      | false =>
        have Hn : Hid (rowB l = false) := Lib.hid (by unfold rowB; rw [all_no hs hv]; rfl)
        simp only [hv] at hV
        generalize nthV l k = x at *
        clear hall hs hv
        go_wp2_with (go_at_call 13; refine (hV _).mono ?_; rintro e w1 ⟨rfl, hx1⟩)
        go_ret
        exact ⟨by rw [Hn.out]; rfl, hx.trans hx1⟩
      | true =>
        have Hy : Hid ((l.take (k + 1)).all valB = true) := Lib.hid (all_take hs hall hv)
        simp only [hv] at hV
        generalize nthV l k = x at *
        clear hall hs hv
        go_wp2_with (go_at_call 13; refine (hV _).mono ?_; rintro e w1 ⟨rfl, hx1⟩)
        go_roundw
        case rel => exact ⟨k + 1, by omega, by go_num, Hy.out, hx.trans hx1⟩
        case measure => simp [intOf]; omega
    · obtain rfl : k = l.length := by omega
      rw [List.take_length] at hall
      by_cases h8 : l.length ≤ 8
      · have Hn : Hid (rowB l = true) := Lib.hid (by unfold rowB; rw [hall, decide_eq_true h8]; rfl)
        have h8' : (l.length : Int) ≤ 8 := by omega
        clear hall
        go_wp2
        go_ret
        exact ⟨by rw [Hn.out]; first | rfl | (simp; done) | (simp; omega), hx⟩
      · have Hn : Hid (rowB l = false) := Lib.hid (by unfold rowB; rw [decide_eq_false h8, Bool.and_false])
        have h8' : decide ((l.length : Int) ≤ 8) = false := decide_eq_false (by omega)
        clear hall h8
        go_wp2
        go_ret
        exact ⟨by rw [Hn.out]; first | rfl | (simp; done) | (simp; omega), hx⟩
end Go.Proofs.YtepgpejdnlejnaaDoor
