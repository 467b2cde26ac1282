/- Items: whether they are valid, of the reference: the whole. -/
import Derived.Test.YtepgpejdnlejnaaDoorItJ
namespace Go.Proofs.YtepgpejdnlejnaaDoor
open Go.RowKit
set_option linter.unusedVariables false
set_option linter.unusedSimpArgs false
set_option linter.unusedSectionVars false
set_option maxRecDepth 20000
attribute [local go_sem] Oper.semAt_some

def goodT (l : List It) (i : Nat) : Prop := itemB (nthT l i) = true ∧ idxF l (nthT l i).1 = i
instance (l : List It) (i : Nat) : Decidable (goodT l i) := by unfold goodT; infer_instance
def knownB (l : List It) : Bool := (List.range l.length).all (fun i => decide (goodT l i)) && decide (l.length ≤ 8)
def itemsB (l : List It) : Bool := decide (0 < l.length) && knownB l
theorem knownB_yes {l : List It} (h : ∀ i, i < l.length → goodT l i) : knownB l = decide (l.length ≤ 8) := by
  unfold knownB
  rw [show (List.range l.length).all (fun i => decide (goodT l i)) = true from by simpa using h]
  rfl
theorem knownB_no {l : List It} {k : Nat} (hk : k < l.length) (h : ¬ goodT l k) : knownB l = false := by
  unfold knownB
  rw [show (List.range l.length).all (fun i => decide (goodT l i)) = false from by
    rw [List.all_eq_false]
    exact ⟨k, List.mem_range.2 hk, by simpa using h⟩]
  rfl
theorem rknown_any (P : Option Addr) (cap : Nat) (l : List It) (w : World) (h : SlT w P cap l) :
    Calls Tryd.prog 60 #[.slice P l.length cap] w fun e w' => e = .returned (.bool (knownB l)) ∧ Ext w w' := by
  have hlen := h.len
  go_enter Tryd.func60, Tryd.ntmps60
  go_wp2
  go_loopw [3] (fun i wr => ∃ k : Nat, k ≤ l.length ∧ i = .int .i64 k ∧ (∀ j : Nat, j < k → goodT l j) ∧ Ext w wr) (fun i _ => l.length - (intOf i).toNat)
  case atStart => exact ⟨0, by omega, rfl, by intro j hj; omega, Ext.refl w⟩
  case round =>
    obtain ⟨k, hk, rfl, hall, hx⟩ := hrel
    by_cases hlt : k < l.length
    · obtain ⟨b, off, hP, g0, g1, g2, g3, g4⟩ := h.itemAt k hlt
      have hR := fun s W hW => rindex_any P cap l s W hW
      subst hP
      have g0 := hx.cell g0
      have g1 := hx.cell g1
      have g2 := hx.cell g2
      have g3 := hx.cell g3
      have g4 := hx.cell g4
      have c1 : (k : Int) < l.length := by omega
      have d1 : IntKind.i64.wrap ((k : Int) + 1) = (k : Int) + 1 := IntWalk.i64_in _ ⟨by omega, by omega⟩
      have hV := fun W => ritem_any (nthT l k) W
      unfold It.v at hV
      cases hv : itemB (nthT l k) with
      | false =>
        have Hn : Hid (knownB l = false) := Lib.hid (knownB_no hlt (fun hg => by rw [hg.1] at hv; cases hv))
        simp only [hv] at hV
        generalize nthT l k = x at *
        clear hall hv
        go_wp2_with (go_at_call 15; refine (hV _).mono ?_; rintro e w1 ⟨rfl, hx1⟩)
        go_ret
        exact ⟨by rw [Hn.out]; rfl, hx.trans hx1⟩
      | true =>
        simp only [hv] at hV
        by_cases hi : idxF l (nthT l k).1 = k
        · have Hy : Hid (∀ j : Nat, j < k + 1 → goodT l j) := Lib.hid (fun j hj => by
            by_cases hjk : j = k
            · subst hjk; exact ⟨hv, hi⟩
            · exact hall j (by omega))
          have m0 : ((k : Int) != (k : Int)) = false := by simp
          have m1 : decide ((k : Int) = (k : Int)) = true := by simp
          have HI := Lib.hid hi
          generalize nthT l k = x at *
          clear hall hv hi
          go_wp2_with (first
            | (go_at_call 15; refine (hV _).mono ?_; rintro e w1 ⟨rfl, hx1⟩; replace g0 := hx1.cell g0; have hx2 := hx.trans hx1)
            | (go_at_call 72; refine (hR _ _ (by exact h.ext hx2)).mono ?_; rintro e w2 ⟨rfl, rfl⟩; rw [HI.out]))
          go_roundw
          case rel => exact ⟨k + 1, by omega, by go_num, Hy.out, hx2⟩
          case measure => simp [intOf]; omega
        · have Hn : Hid (knownB l = false) := Lib.hid (knownB_no hlt (fun hg => hi hg.2))
          have hi2 : decide (idxF l (nthT l k).1 = (k : Int)) = false := decide_eq_false hi
          have hi3 : (idxF l (nthT l k).1 == (k : Int)) = false := by simpa using hi
          have hR1 := fun W hW => hR (nthT l k).1 W hW
          clear hR
          have hi4 : (idxF l (nthT l k).1 != (k : Int)) = true := by simpa using hi
          generalize nthT l k = x at *
          clear hall hv hi
          generalize idxF l x.1 = z at *
          go_wp2_with (first
            | (go_at_call 15; refine (hV _).mono ?_; rintro e w1 ⟨rfl, hx1⟩; replace g0 := hx1.cell g0; have hx2 := hx.trans hx1)
            | (go_at_call 72; refine (hR1 _ (by exact h.ext hx2)).mono ?_; rintro e w2 ⟨rfl, rfl⟩))
          go_ret
          exact ⟨by rw [Hn.out]; rfl, hx2⟩
    · obtain rfl : k = l.length := by omega
      have Hn := Lib.hid (knownB_yes hall)
      clear hall
      by_cases h8 : l.length ≤ 8
      · have h8' : (l.length : Int) ≤ 8 := by omega
        go_wp2
        go_ret
        exact ⟨by rw [Hn.out, decide_eq_true h8]; first | rfl | (simp; done) | (simp; omega), hx⟩
      · have h8' : decide ((l.length : Int) ≤ 8) = false := decide_eq_false (by omega)
        have H8 := Lib.hid h8
        clear h8
        go_wp2
        go_ret
        exact ⟨by rw [Hn.out, decide_eq_false H8.out]; first | rfl | (simp; done) | (simp; omega), hx⟩
theorem ritems_any (P : Option Addr) (cap : Nat) (l : List It) (w : World) (h : SlT w P cap l) :
    Calls Tryd.prog 21 #[.slice P l.length cap] w fun e w' => e = .returned (.bool (itemsB l)) ∧ Ext w w' := by
  have hK := rknown_any P cap l w h
  have hlen := h.len
  by_cases h0 : 0 < l.length
  · have h0' : (0 : Int) < l.length := by omega
    have Hn : Hid (itemsB l = knownB l) := Lib.hid (by unfold itemsB; rw [decide_eq_true h0, Bool.true_and])
    generalize knownB l = r at *
    go_enter Tryd.func21, Tryd.ntmps21
    go_wp2_with (go_at_call 60; refine hK.mono ?_; rintro e w1 ⟨rfl, hx1⟩)
    go_ret
    exact ⟨by rw [Hn.out]; first | rfl | (simp; done), hx1⟩
  · have Hn : Hid (itemsB l = false) := Lib.hid (by unfold itemsB; rw [decide_eq_false h0, Bool.false_and])
    have h0' : decide ((0 : Int) < l.length) = false := decide_eq_false (by omega)
    have h0'' : (l.length : Int) ≤ 0 := by omega
    clear h0
    go_enter Tryd.func21, Tryd.ntmps21
    go_wp2_with (go_at_call 60; refine hK.mono ?_; rintro e w1 ⟨rfl, hx1⟩)
    go_ret
    exact ⟨by rw [Hn.out]; first | rfl | (simp; done) | (simp; omega), by first | exact Ext.refl _ | exact hx1⟩
end Go.Proofs.YtepgpejdnlejnaaDoor
