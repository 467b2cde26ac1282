/- Items: whether a row fits, of both. -/
import Derived.Test.YtepgpejdnlejnaaDoorItM
namespace Go.Proofs.YtepgpejdnlejnaaDoor
open Go.RowKit
set_option linter.unusedVariables false
set_option linter.unusedSimpArgs false
set_option linter.unusedSectionVars false
set_option maxRecDepth 20000
attribute [local go_sem] Oper.semAt_some

def fitsB (l : List It) (r : List Vl) : Bool := itemsB l && (decide (l.length = r.length) && (List.range l.length).all (fun i => fitB (nthT l i) (nthV r i)))
def pairsB (l : List It) (r : List Vl) : Bool := decide (l.length = r.length) && (List.range l.length).all (fun i => fitB (nthT l i) (nthV r i))
theorem pairsB_len {l : List It} {r : List Vl} (h : ¬ l.length = r.length) : pairsB l r = false := by simp [pairsB, h]
theorem pairsB_yes {l : List It} {r : List Vl} (h : l.length = r.length) (ha : ∀ i, i < l.length → fitB (nthT l i) (nthV r i) = true) : pairsB l r = true := by
  simp only [pairsB, h, decide_true, Bool.true_and, List.all_eq_true, List.mem_range]
  intro i hi
  exact ha i (by omega)
theorem pairsB_no {l : List It} {r : List Vl} {k : Nat} (hk : k < l.length) (h : fitB (nthT l k) (nthV r k) = false) : pairsB l r = false := by
  unfold pairsB
  rw [show (List.range l.length).all (fun i => fitB (nthT l i) (nthV r i)) = false from by
    rw [List.all_eq_false]
    exact ⟨k, List.mem_range.2 hk, by simp [h]⟩, Bool.and_false]

set_option maxHeartbeats 4000000 in
theorem equalf_any (P Q : Option Addr) (cap cap2 : Nat) (l : List It) (r : List Vl) (w : World) (h : SlT w P cap l) (h2 : SlV w Q cap2 r) :
    Calls Tryd.prog 61 #[.slice P l.length cap, .slice Q r.length cap2, .func (.func 62) #[] #[]] w fun e w' => e = .returned (.bool (pairsB l r)) ∧ Ext w w' := by
  have hlen := h.len
  have hlen2 := h2.len
  by_cases hl : l.length = r.length
  · rw [← hl]
    have HL := Lib.hid hl
    clear hl
    go_enter Tryd.func61, Tryd.ntmps61
    go_wp2
    go_loopw [17, 7, 8, 9] (fun i _ _ _ wr => ∃ k : Nat, k ≤ l.length ∧ i = .int .i64 k ∧ (∀ j : Nat, j < k → fitB (nthT l j) (nthV r j) = true) ∧ Ext w wr) (fun i _ _ _ _ => l.length - (intOf i).toNat)
    case atStart => exact ⟨0, by omega, rfl, by intro j hj; omega, Ext.refl w⟩
    case round =>
      obtain ⟨k, hk, rfl, hall, hx⟩ := hrel
      by_cases hlt : k < l.length
      · obtain ⟨b, off, hP, g0, g1, g2, g3, g4⟩ := h.itemAt k hlt
        obtain ⟨b2, off2, hQ, q0, q1, q2⟩ := h2.valAt k (by have := HL.out; omega)
        subst hP
        subst hQ
        have g0 := hx.cell g0
        have g1 := hx.cell g1
        have g2 := hx.cell g2
        have g3 := hx.cell g3
        have g4 := hx.cell g4
        have q0 := hx.cell q0
        have q1 := hx.cell q1
        have q2 := hx.cell q2
        have hb2 : b2 < wr.heap.size := block_lt q0
        have c1 : (k : Int) < l.length := by omega
        have d1 : IntKind.i64.wrap ((k : Int) + 1) = (k : Int) + 1 := IntWalk.i64_in _ ⟨by omega, by omega⟩
        have hV := fun W => takes_any (nthT l k) (nthV r k) W
        unfold It.v Vl.v at hV
        cases hv : fitB (nthT l k) (nthV r k) with
        | false =>
          have Hn : Hid (pairsB l r = false) := Lib.hid (pairsB_no hlt hv)
          simp only [hv] at hV
          generalize nthT l k = x at *
          generalize nthV r k = y at *
          clear hall hv
          go_wp2_with (go_at_call 62; refine (hV _).mono ?_; rintro e w1 ⟨rfl, hx1⟩)
          go_ret
          exact ⟨by rw [Hn.out]; rfl, ((hx.alloc _).alloc _).trans hx1⟩
        | true =>
          have Hy : Hid (∀ j : Nat, j < k + 1 → fitB (nthT l j) (nthV r j) = true) := Lib.hid (fun j hj => by
            by_cases hjk : j = k
            · subst hjk; exact hv
            · exact hall j (by omega))
          simp only [hv] at hV
          generalize nthT l k = x at *
          generalize nthV r k = y at *
          clear hall hv
          go_wp2_with (go_at_call 62; refine (hV _).mono ?_; rintro e w1 ⟨rfl, hx1⟩)
          go_roundw
          case rel => exact ⟨k + 1, by omega, by go_num, Hy.out, ((hx.alloc _).alloc _).trans hx1⟩
          case measure => simp [intOf]; omega
      · obtain rfl : k = l.length := by omega
        have Hn := Lib.hid (pairsB_yes HL.out hall)
        clear hall
        go_wp2
        go_ret
        exact ⟨by rw [Hn.out]; rfl, hx⟩
  · have Hn := Lib.hid (pairsB_len hl)
    have hl1 : ((l.length : Int) == r.length) = false := by simp; omega
    have hl2 : ((l.length : Int) != r.length) = true := by simp; omega
    clear hl
    go_enter Tryd.func61, Tryd.ntmps61
    go_wp2
    go_ret
    exact ⟨by rw [Hn.out]; rfl, Ext.refl w⟩
theorem fits_any (P Q : Option Addr) (cap cap2 : Nat) (l : List It) (r : List Vl) (w : World) (h : SlT w P cap l) (h2 : SlV w Q cap2 r) :
    Calls Tryd.prog 22 #[.slice P l.length cap, .slice Q r.length cap2] w fun e w' => e = .returned (.bool (fitsB l r)) ∧ Ext w w' := by
  have hI := items_any P cap l w h
  have hE := fun W hx => equalf_any P Q cap cap2 l r W (h.ext hx) (h2.ext hx)
  have HB : Hid (fitsB l r = (itemsB l && pairsB l r)) := Lib.hid rfl
  cases hi : itemsB l with
  | false =>
    simp only [hi] at hI
    rw [hi] at HB
    go_enter Tryd.func22, Tryd.ntmps22
    go_wp2_with (go_at_call 20; refine hI.mono ?_; rintro e w1 ⟨rfl, hx1⟩)
    go_ret
    exact ⟨by rw [HB.out]; rfl, hx1⟩
  | true =>
    simp only [hi] at hI
    rw [hi] at HB
    generalize pairsB l r = z at *
    go_enter Tryd.func22, Tryd.ntmps22
    go_wp2_with (first
      | (go_at_call 20; refine hI.mono ?_; rintro e w1 ⟨rfl, hx1⟩)
      | (go_at_call 61; refine (hE _ hx1).mono ?_; rintro e w2 ⟨rfl, hx2⟩))
    go_ret
    exact ⟨by rw [HB.out]; rfl, hx1.trans hx2⟩
end Go.Proofs.YtepgpejdnlejnaaDoor
