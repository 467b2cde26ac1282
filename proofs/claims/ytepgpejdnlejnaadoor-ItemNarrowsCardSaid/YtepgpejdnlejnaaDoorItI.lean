/- Rows: whether one is valid, of the program. -/
import Derived.Test.YtepgpejdnlejnaaDoorItH
namespace Go.Proofs.YtepgpejdnlejnaaDoor
open Go.RowKit
set_option linter.unusedVariables false
set_option linter.unusedSimpArgs false
set_option linter.unusedSectionVars false
set_option maxRecDepth 20000
attribute [local go_sem] Oper.semAt_some

theorem notvalid_any (x : Vl) (w : World) : Calls Tryd.prog 59 #[x.v] w fun e w' => e = .returned (.bool (!valB x)) ∧ Ext w w' := by
  have hV := fun W => value_any x W
  obtain ⟨k, n, s⟩ := x
  show Calls _ _ #[.agg #[.int .i64 k, .int .i64 n, .string s]] _ _
  unfold Vl.v at hV
  obtain ⟨r, hr⟩ : ∃ r, valB (k, n, s) = r := ⟨_, rfl⟩
  simp only [hr] at hV ⊢
  clear hr
  go_enter Tryd.func59, Tryd.ntmps59
  go_wp2_with (go_at_call 12; refine (hV _).mono ?_; rintro e w1 ⟨rfl, hx1⟩)
  go_ret
  exact ⟨rfl, Ext.trans ((Ext.refl w).alloc _) hx1⟩
theorem indexBad_any (P : Option Addr) (cap : Nat) (l : List Vl) (w : World) (h : SlV w P cap l) :
    Calls Tryd.prog 92 #[.slice P l.length cap, .func (.func 59) #[] #[]] w fun e w' => (∃ i : Int, e = .returned (.int .i64 i) ∧ decide (0 ≤ i) = !l.all valB) ∧ Ext w w' := by
  have hlen := h.len
  go_enter Tryd.func92, Tryd.ntmps92
  go_wp2
  go_loopw [8, 5] (fun i _ wr => ∃ k : Nat, k ≤ l.length ∧ i = .int .i64 k ∧ (l.take k).all valB = true ∧ Ext w wr) (fun i _ _ => l.length - (intOf i).toNat)
  case atStart => exact ⟨0, by omega, rfl, by simp, Ext.refl w⟩
  case round =>
    obtain ⟨k, hk, rfl, hall, hx⟩ := hrel
    by_cases hlt : k < l.length
    · obtain ⟨b, off, hP, g0, g1, g2⟩ := h.valAt k hlt
      subst hP
      have g0 := hx.cell g0
      have g1 := hx.cell g1
      have g2 := hx.cell g2
      have c1 : (k : Int) < l.length := by omega
      have hs := nthV_some hlt
      have d1 : IntKind.i64.wrap ((k : Int) + 1) = (k : Int) + 1 := IntWalk.i64_in _ ⟨by omega, by omega⟩
      have hV := fun W => notvalid_any (nthV l k) W
      unfold Vl.v at hV
      cases hv : valB (nthV l k) with
      | false =>
        have Hn : Hid (l.all valB = false) := Lib.hid (all_no hs hv)
        simp only [hv, Bool.not_false] at hV
        generalize nthV l k = x at *
        clear hall hs hv
        go_wp2_with (go_at_call 59; refine (hV _).mono ?_; rintro e w1 ⟨rfl, hx1⟩)
        go_ret
        exact ⟨⟨k, rfl, by rw [Hn.out, decide_eq_true (by omega)]; rfl⟩, hx.trans hx1⟩
      | true =>
        have Hy : Hid ((l.take (k + 1)).all valB = true) := Lib.hid (all_take hs hall hv)
        simp only [hv, Bool.not_true] at hV
        generalize nthV l k = x at *
        clear hall hs hv
        go_wp2_with (go_at_call 59; refine (hV _).mono ?_; rintro e w1 ⟨rfl, hx1⟩)
        go_roundw
        case rel => exact ⟨k + 1, by omega, by go_num, Hy.out, hx.trans hx1⟩
        case measure => simp [intOf]; omega
    · obtain rfl : k = l.length := by omega
      rw [List.take_length] at hall
      have Hall := Lib.hid hall
      clear hall
      go_wp2
      go_ret
      exact ⟨⟨-1, rfl, by rw [Hall.out]; rfl⟩, hx⟩
theorem containsBad_any (P : Option Addr) (cap : Nat) (l : List Vl) (w : World) (h : SlV w P cap l) :
    Calls Tryd.prog 58 #[.slice P l.length cap, .func (.func 59) #[] #[]] w fun e w' => e = .returned (.bool (!l.all valB)) ∧ Ext w w' := by
  have hI := indexBad_any P cap l w h
  go_enter Tryd.func58, Tryd.ntmps58
  go_wp2_with (go_at_call 92; refine hI.mono ?_; rintro e w1 ⟨⟨i, rfl, hi⟩, hx1⟩; have Hi := Lib.hid hi; clear hi)
  go_ret
  exact ⟨by rw [← Hi.out]; rfl, hx1⟩
theorem row_any (P : Option Addr) (cap : Nat) (l : List Vl) (w : World) (h : SlV w P cap l) :
    Calls Tryd.prog 18 #[.slice P l.length cap] w fun e w' => e = .returned (.bool (rowB l)) ∧ Ext w w' := by
  have hC := containsBad_any P cap l w h
  have hlen := h.len
  by_cases h8 : l.length ≤ 8
  · have h8' : (l.length : Int) ≤ 8 := by omega
    have Hn : Hid (rowB l = l.all valB) := Lib.hid (by unfold rowB; rw [decide_eq_true h8, Bool.and_true])
    generalize l.all valB = r at *
    go_enter Tryd.func18, Tryd.ntmps18
    go_wp2_with (go_at_call 58; refine hC.mono ?_; rintro e w1 ⟨rfl, hx1⟩)
    go_ret
    exact ⟨by rw [Hn.out]; first | rfl | (simp; done), hx1⟩
  · have h8' : decide ((l.length : Int) ≤ 8) = false := decide_eq_false (by omega)
    have Hn : Hid (rowB l = false) := Lib.hid (by unfold rowB; rw [decide_eq_false h8, Bool.and_false])
    clear h8
    go_enter Tryd.func18, Tryd.ntmps18
    go_wp2_with (go_at_call 58; refine hC.mono ?_; rintro e w1 ⟨rfl, hx1⟩)
    go_ret
    exact ⟨by rw [Hn.out]; first | rfl | (simp; done) | (simp; omega), by first | exact Ext.refl _ | exact hx1⟩
end Go.Proofs.YtepgpejdnlejnaaDoor
