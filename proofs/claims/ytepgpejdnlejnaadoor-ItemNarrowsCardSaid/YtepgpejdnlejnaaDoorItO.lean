/- Items: whether a row fits, of the reference. -/
import Derived.Test.YtepgpejdnlejnaaDoorItN
import Derived.Deep.RegionHeld3
namespace Go.Proofs.YtepgpejdnlejnaaDoor
open Go.RowKit
set_option linter.unusedVariables false
set_option linter.unusedSimpArgs false
set_option linter.unusedSectionVars false
set_option maxRecDepth 20000
attribute [local go_sem] Oper.semAt_some

set_option maxHeartbeats 4000000 in
theorem rfits_any (P Q : Option Addr) (cap cap2 : Nat) (l : List It) (r : List Vl) (w : World) (h : SlT w P cap l) (h2 : SlV w Q cap2 r) :
    Calls Tryd.prog 23 #[.slice P l.length cap, .slice Q r.length cap2] w fun e w' => e = .returned (.bool (fitsB l r)) ∧ Ext w w' := by
  have hlen := h.len
  have hlen2 := h2.len
  have hI := ritems_any P cap l w h
  have HB : Hid (fitsB l r = (itemsB l && pairsB l r)) := Lib.hid rfl
  cases hi : itemsB l with
  | false =>
    simp only [hi] at hI
    rw [hi] at HB
    go_enter Tryd.func23, Tryd.ntmps23
    go_wp2_with (go_at_call 21; refine hI.mono ?_; rintro e w1 ⟨rfl, hx1⟩)
    go_ret
    exact ⟨by rw [HB.out]; rfl, hx1⟩
  | true =>
    simp only [hi] at hI
    rw [hi] at HB
    by_cases hl : l.length = r.length
    · rw [← hl]
      have HL := Lib.hid hl
      clear hl
      go_enter Tryd.func23, Tryd.ntmps23
      go_wp2_with (go_at_call 21; refine hI.mono ?_; rintro e w1 ⟨rfl, hx1⟩)
      go_loopw [5] (fun i wr => ∃ k : Nat, k ≤ l.length ∧ i = .int .i64 k ∧ (∀ j : Nat, j < k → fitB (nthT l j) (nthV r j) = true) ∧ Ext w wr) (fun i _ => l.length - (intOf i).toNat)
      case atStart => exact ⟨0, by omega, rfl, by intro j hj; omega, hx1⟩
      case round =>
        obtain ⟨k, hk, rfl, hall, hx⟩ := hrel
        by_cases hlt : k < l.length
        · obtain ⟨b, off, hP, g0, g1, g2, g3, g4⟩ := h.itemAt k hlt
          obtain ⟨b2, off2, hQ, q0, q1, q2⟩ := h2.valAt k (by have := HL.out; omega)
          subst hP
          subst hQ
          have g0 := hx.cell g0
          have g1 := hx.cell g1
          have g2 := hx.cell g2
          have g3 := hx.cell g3
          have g4 := hx.cell g4
          have q0 := hx.cell q0
          have q1 := hx.cell q1
          have q2 := hx.cell q2
          have c1 : (k : Int) < l.length := by omega
          have d1 : IntKind.i64.wrap ((k : Int) + 1) = (k : Int) + 1 := IntWalk.i64_in _ ⟨by omega, by omega⟩
          have hV := fun W => rholds_any (nthT l k) (nthV r k) W
          unfold It.v Vl.v at hV
          cases hv : fitB (nthT l k) (nthV r k) with
          | false =>
            have Hn : Hid (pairsB l r = false) := Lib.hid (pairsB_no hlt hv)
            simp only [hv] at hV
            generalize nthT l k = x at *
            generalize nthV r k = y at *
            clear hall hv
            go_wp2
            go_region_held3 (fun w' => w'.cell? ⟨b, off + k * 5, none⟩ = some (.string x.1) ∧ w'.cell? ⟨b, off + k * 5 + 1, none⟩ = some (.int .i64 x.2.1) ∧ w'.cell? ⟨b, off + k * 5 + 2, none⟩ = some (.int .i64 x.2.2.1) ∧ w'.cell? ⟨b, off + k * 5 + 3, none⟩ = some (.int .i64 x.2.2.2.1) ∧ w'.cell? ⟨b, off + k * 5 + 4, none⟩ = some (.int .i64 x.2.2.2.2) ∧ w'.cell? ⟨b2, off2 + k * 3, none⟩ = some (.int .i64 y.1) ∧ w'.cell? ⟨b2, off2 + k * 3 + 1, none⟩ = some (.int .i64 y.2.1) ∧ w'.cell? ⟨b2, off2 + k * 3 + 2, none⟩ = some (.string y.2.2)) (go_keep)
              (first
                | (go_at_call 63; refine (hV _).mono ?_; rintro e w2 ⟨rfl, hx2⟩; have y0 := hx2.cell g0; have y1 := hx2.cell g1; have y2 := hx2.cell g2; have y3 := hx2.cell g3; have y4 := hx2.cell g4; have y5 := hx2.cell q0; have y6 := hx2.cell q1; have y7 := hx2.cell q2)
                | fail)
            go_wp2
            go_ret
            exact ⟨by rw [HB.out, Hn.out]; rfl, hx.drew.trans hx2⟩
          | true =>
            have Hy : Hid (∀ j : Nat, j < k + 1 → fitB (nthT l j) (nthV r j) = true) := Lib.hid (fun j hj => by
              by_cases hjk : j = k
              · subst hjk; exact hv
              · exact hall j (by omega))
            simp only [hv] at hV
            generalize nthT l k = x at *
            generalize nthV r k = y at *
            clear hall hv
            go_wp2
            go_region_held3 (fun w' => w'.cell? ⟨b, off + k * 5, none⟩ = some (.string x.1) ∧ w'.cell? ⟨b, off + k * 5 + 1, none⟩ = some (.int .i64 x.2.1) ∧ w'.cell? ⟨b, off + k * 5 + 2, none⟩ = some (.int .i64 x.2.2.1) ∧ w'.cell? ⟨b, off + k * 5 + 3, none⟩ = some (.int .i64 x.2.2.2.1) ∧ w'.cell? ⟨b, off + k * 5 + 4, none⟩ = some (.int .i64 x.2.2.2.2) ∧ w'.cell? ⟨b2, off2 + k * 3, none⟩ = some (.int .i64 y.1) ∧ w'.cell? ⟨b2, off2 + k * 3 + 1, none⟩ = some (.int .i64 y.2.1) ∧ w'.cell? ⟨b2, off2 + k * 3 + 2, none⟩ = some (.string y.2.2)) (go_keep)
              (first
                | (go_at_call 63; refine (hV _).mono ?_; rintro e w2 ⟨rfl, hx2⟩; have y0 := hx2.cell g0; have y1 := hx2.cell g1; have y2 := hx2.cell g2; have y3 := hx2.cell g3; have y4 := hx2.cell g4; have y5 := hx2.cell q0; have y6 := hx2.cell q1; have y7 := hx2.cell q2)
                | fail)
            go_wp2
            go_roundw
            case rel => exact ⟨k + 1, by omega, by go_num, Hy.out, hx.drew.trans hx2⟩
            case measure => simp [intOf]; omega
        · obtain rfl : k = l.length := by omega
          have Hn := Lib.hid (pairsB_yes HL.out hall)
          clear hall
          go_wp2
          go_ret
          exact ⟨by rw [HB.out, Hn.out]; rfl, hx⟩
    · have Hn := Lib.hid (pairsB_len hl)
      have hl1 : ((r.length : Int) == l.length) = false := by simp; omega
      have hl2 : ((r.length : Int) != l.length) = true := by simp; omega
      clear hl
      go_enter Tryd.func23, Tryd.ntmps23
      go_wp2_with (go_at_call 21; refine hI.mono ?_; rintro e w1 ⟨rfl, hx1⟩)
      go_ret
      exact ⟨by rw [HB.out, Hn.out]; rfl, hx1⟩
end Go.Proofs.YtepgpejdnlejnaaDoor
