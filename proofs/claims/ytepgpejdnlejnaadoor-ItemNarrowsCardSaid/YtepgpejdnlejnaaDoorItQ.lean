/- The law of ItemValid, but for its last word. -/
import Derived.Test.YtepgpejdnlejnaaDoorItP
import Derived.Deep.RegionHeld3
namespace Go.Proofs.YtepgpejdnlejnaaDoor
open Go.RowKit
set_option linter.unusedVariables false
set_option linter.unusedSimpArgs false
set_option linter.unusedSectionVars false
set_option maxRecDepth 20000
attribute [local go_sem] Oper.semAt_some

theorem rw_one {w w1 : World} {Q : Option Addr} {c : Nat} {r : List Vl} (h : SlV w Q c r) {t : TypeId} (hx : Ext (w.alloc (.cells #[.slice Q r.length c] t)) w1) :
    SlG Rw.cells w1 (some ⟨w.heap.size, 0, none⟩) 1 [(Q, c, r)] ∧ ∀ x ∈ [(Q, c, r)], SlV w1 x.1 x.2.1 x.2.2 := by
  refine ⟨⟨fun i x hi => ⟨_, _, rfl, fun j v hj => ?_⟩, by simp, by omega⟩, fun x hx2 => ?_⟩
  · cases i with
    | zero =>
      simp at hi
      subst hi
      cases j with
      | zero => simp [Rw.cells] at hj; subst hj; exact box1 hx 0 _ rfl
      | succ j => simp [Rw.cells] at hj
    | succ i => simp at hi
  · simp at hx2
    subst hx2
    exact h.ext (((Ext.refl w).alloc _).trans hx)

set_option maxHeartbeats 8000000 in
theorem valid_law (P Q : Option Addr) (cap cap2 : Nat) (l : List It) (r : List Vl) (s : ByteArray) (w : World) (aw : ∀ W, Ext w W → Calls Tryd.prog 11 #[] W fun e w' => e = .returned (.bool true) ∧ Ext W w') (h : SlT w P cap l) (h2 : SlV w Q cap2 r) :
    Calls Tryd.prog 3 #[.slice P l.length cap, .slice Q r.length cap2, .string s] w fun e w' => e = .returned (.bool true) ∧ Ext w w' := by
  have hlen := h.len
  have hlen2 := h2.len
  have hI := fun W hx => litems_any P cap l W (h.ext hx)
  have hR := fun (t : TypeId) (W : World) (hx : Ext (w.alloc (.cells #[.slice Q r.length cap2] t)) W) => lrows_any (some ⟨w.heap.size, 0, none⟩) 1 [(Q, cap2, r)] W (rw_one h2 hx).1 (rw_one h2 hx).2
  go_enter Tryd.func3, Tryd.ntmps3
  go_wp2_with (first
    | (go_at_call 9; refine (hI _ (Ext.refl _)).mono ?_; rintro e w1 ⟨⟨b1, rfl⟩, rfl⟩; cases b1)
    | (go_at_call 10; refine (hR _ _ (Ext.refl _)).mono ?_; rintro e w1 ⟨⟨b2, rfl⟩, rfl⟩; cases b2)
    | (go_at_call 11; refine (aw _ (by first | exact Ext.refl _ | exact (Ext.refl _).alloc _)).mono ?_; rintro e w7 ⟨rfl, hx7⟩))
  all_goals first
    | (go_ret; exact ⟨rfl, hx7⟩)
    | (go_ret; exact ⟨rfl, ((Ext.refl _).alloc _).trans hx7⟩)
    | skip
  have hx0 := (Ext.refl w1).alloc (.cells #[.slice Q r.length cap2] 23)
  go_loopw [7] (fun i wr => ∃ k : Nat, k ≤ r.length ∧ i = .int .i64 k ∧ Ext w1 wr) (fun i _ => r.length - (intOf i).toNat)
  case atStart => exact ⟨0, by omega, rfl, hx0⟩
  case round =>
    obtain ⟨k, hk, rfl, hx⟩ := hrel
    by_cases hlt : k < r.length
    · obtain ⟨b2, off2, hQ, q0, q1, q2⟩ := h2.valAt k hlt
      subst hQ
      have q0 := hx.cell q0
      have q1 := hx.cell q1
      have q2 := hx.cell q2
      have c1 : (k : Int) < r.length := by omega
      have d1 : IntKind.i64.wrap ((k : Int) + 1) = (k : Int) + 1 := IntWalk.i64_in _ ⟨by omega, by omega⟩
      have hV := fun W => value_any (nthV r k) W
      have hRV := fun W => rvalue_any (nthV r k) W
      unfold Vl.v at hV hRV
      generalize valB (nthV r k) = z at *
      generalize nthV r k = y at *
      go_wp2
      go_region_held3 (fun w' => w'.cell? ⟨b2, off2 + k * 3, none⟩ = some (.int .i64 y.1) ∧ w'.cell? ⟨b2, off2 + k * 3 + 1, none⟩ = some (.int .i64 y.2.1) ∧ w'.cell? ⟨b2, off2 + k * 3 + 2, none⟩ = some (.string y.2.2)) (first | go_keep | ((try dsimp only); (repeat' apply And.intro); all_goals first | go_keep | (refine Ext.cell ?_ q0; (repeat (first | exact Ext.refl _ | assumption | refine Ext.drew ?_ | refine Ext.drewN ?_ _ | refine Ext.alloc ?_ _ | refine Ext.trans ?_ x6 | refine Ext.trans ?_ x5 | refine Ext.trans ?_ x4 | refine Ext.trans ?_ x3)); done) | (refine Ext.cell ?_ q1; (repeat (first | exact Ext.refl _ | assumption | refine Ext.drew ?_ | refine Ext.drewN ?_ _ | refine Ext.alloc ?_ _ | refine Ext.trans ?_ x6 | refine Ext.trans ?_ x5 | refine Ext.trans ?_ x4 | refine Ext.trans ?_ x3)); done) | (refine Ext.cell ?_ q2; (repeat (first | exact Ext.refl _ | assumption | refine Ext.drew ?_ | refine Ext.drewN ?_ _ | refine Ext.alloc ?_ _ | refine Ext.trans ?_ x6 | refine Ext.trans ?_ x5 | refine Ext.trans ?_ x4 | refine Ext.trans ?_ x3)); done)))
        (first
          | (go_at_call 12; refine (hV _).mono ?_; rintro e w3 ⟨rfl, x3⟩)
          | (go_at_call 13; refine (hRV _).mono ?_; rintro e w4 ⟨rfl, x4⟩)
          | fail)
      go_wp2
      go_roundw
      case rel => exact ⟨k + 1, by omega, by go_num, by (repeat (first | exact Ext.refl _ | assumption | refine Ext.drew ?_ | refine Ext.drewN ?_ _ | refine Ext.alloc ?_ _ | refine Ext.trans ?_ x6 | refine Ext.trans ?_ x5 | refine Ext.trans ?_ x4 | refine Ext.trans ?_ x3)); done⟩
      case measure => simp [intOf]; omega
    · obtain rfl : k = r.length := by omega
      clear hx0
      go_wp2
      go_loopw [8] (fun i wr2 => ∃ k : Nat, k ≤ l.length ∧ i = .int .i64 k ∧ Ext w1 wr2) (fun i _ => l.length - (intOf i).toNat)
      case atStart => exact ⟨0, by omega, rfl, hx⟩
      case round =>
        clear hx
        obtain ⟨k, hk, rfl, hx⟩ := hrel
        by_cases hlt : k < l.length
        · obtain ⟨b, off, hP, g0, g1, g2, g3, g4⟩ := h.itemAt k hlt
          subst hP
          have g0 := hx.cell g0
          have g1 := hx.cell g1
          have g2 := hx.cell g2
          have g3 := hx.cell g3
          have g4 := hx.cell g4
          have c1 : (k : Int) < l.length := by omega
          have d1 : IntKind.i64.wrap ((k : Int) + 1) = (k : Int) + 1 := IntWalk.i64_in _ ⟨by omega, by omega⟩
          have hV := fun W => item_any (nthT l k) W
          have hRV := fun W => ritem_any (nthT l k) W
          have hN := fun W => name_any (nthT l k).1 W
          have hRN := fun W => rname_any (nthT l k).1 W
          unfold It.v at hV hRV
          generalize itemB (nthT l k) = z at *
          generalize nthT l k = x at *
          generalize nameF x.1 = z2 at *
          go_wp2
          go_region_held3 (fun w' => w'.cell? ⟨b, off + k * 5, none⟩ = some (.string x.1) ∧ w'.cell? ⟨b, off + k * 5 + 1, none⟩ = some (.int .i64 x.2.1) ∧ w'.cell? ⟨b, off + k * 5 + 2, none⟩ = some (.int .i64 x.2.2.1) ∧ w'.cell? ⟨b, off + k * 5 + 3, none⟩ = some (.int .i64 x.2.2.2.1) ∧ w'.cell? ⟨b, off + k * 5 + 4, none⟩ = some (.int .i64 x.2.2.2.2)) (first | go_keep | ((try dsimp only); (repeat' apply And.intro); all_goals first | go_keep | (refine Ext.cell ?_ g0; (repeat (first | exact Ext.refl _ | assumption | refine Ext.drew ?_ | refine Ext.drewN ?_ _ | refine Ext.alloc ?_ _ | refine Ext.trans ?_ x6 | refine Ext.trans ?_ x5 | refine Ext.trans ?_ x4 | refine Ext.trans ?_ x3)); done) | (refine Ext.cell ?_ g1; (repeat (first | exact Ext.refl _ | assumption | refine Ext.drew ?_ | refine Ext.drewN ?_ _ | refine Ext.alloc ?_ _ | refine Ext.trans ?_ x6 | refine Ext.trans ?_ x5 | refine Ext.trans ?_ x4 | refine Ext.trans ?_ x3)); done) | (refine Ext.cell ?_ g2; (repeat (first | exact Ext.refl _ | assumption | refine Ext.drew ?_ | refine Ext.drewN ?_ _ | refine Ext.alloc ?_ _ | refine Ext.trans ?_ x6 | refine Ext.trans ?_ x5 | refine Ext.trans ?_ x4 | refine Ext.trans ?_ x3)); done) | (refine Ext.cell ?_ g3; (repeat (first | exact Ext.refl _ | assumption | refine Ext.drew ?_ | refine Ext.drewN ?_ _ | refine Ext.alloc ?_ _ | refine Ext.trans ?_ x6 | refine Ext.trans ?_ x5 | refine Ext.trans ?_ x4 | refine Ext.trans ?_ x3)); done) | (refine Ext.cell ?_ g4; (repeat (first | exact Ext.refl _ | assumption | refine Ext.drew ?_ | refine Ext.drewN ?_ _ | refine Ext.alloc ?_ _ | refine Ext.trans ?_ x6 | refine Ext.trans ?_ x5 | refine Ext.trans ?_ x4 | refine Ext.trans ?_ x3)); done)))
            (first
              | (go_at_call 14; refine (hV _).mono ?_; rintro e w3 ⟨rfl, x3⟩)
              | (go_at_call 15; refine (hRV _).mono ?_; rintro e w4 ⟨rfl, x4⟩)
              | (go_at_call 16; refine (hN _).mono ?_; rintro e w5 ⟨rfl, rfl⟩)
              | (go_at_call 17; refine (hRN _).mono ?_; rintro e w6 ⟨rfl, rfl⟩)
              | fail)
          go_wp2
          go_roundw
          case rel => exact ⟨k + 1, by omega, by go_num, by (repeat (first | exact Ext.refl _ | assumption | refine Ext.drew ?_ | refine Ext.drewN ?_ _ | refine Ext.alloc ?_ _ | refine Ext.trans ?_ x6 | refine Ext.trans ?_ x5 | refine Ext.trans ?_ x4 | refine Ext.trans ?_ x3)); done⟩
          case measure => simp [intOf]; omega
        · obtain rfl : k = l.length := by omega
          have hN := fun W => name_any s W
          have hRN := fun W => rname_any s W
          have hrow := fun W hx => row_any Q cap2 r W (h2.ext hx)
          have hrrow := fun W hx => rrow_any Q cap2 r W (h2.ext hx)
          have hit := fun W hx => items_any P cap l W (h.ext hx)
          have hrit := fun W hx => ritems_any P cap l W (h.ext hx)
          have hf := fun W hx => fits_any P Q cap cap2 l r W (h.ext hx) (h2.ext hx)
          have hrf := fun W hx => rfits_any P Q cap cap2 l r W (h.ext hx) (h2.ext hx)
          generalize nameF s = z1 at *
          generalize rowB r = z2 at *
          generalize itemsB l = z3 at *
          generalize fitsB l r = z4 at *
          go_wp2_with (first
            | (go_at_call 16; refine (hN _).mono ?_; rintro e w5 ⟨rfl, rfl⟩)
            | (go_at_call 17; refine (hRN _).mono ?_; rintro e w6 ⟨rfl, rfl⟩)
            | (go_at_call 18; refine (hrow _ hx).mono ?_; rintro e w8 ⟨rfl, x8⟩; replace x8 := hx.trans x8)
            | (go_at_call 19; refine (hrrow _ x8).mono ?_; rintro e w9 ⟨rfl, x9⟩; replace x9 := x8.trans x9)
            | (go_at_call 20; refine (hit _ x9).mono ?_; rintro e w10 ⟨rfl, x10⟩; replace x10 := x9.trans x10)
            | (go_at_call 21; refine (hrit _ x10).mono ?_; rintro e w11 ⟨rfl, x11⟩; replace x11 := x10.trans x11)
            | (go_at_call 22; refine (hf _ x11).mono ?_; rintro e w12 ⟨rfl, x12⟩; replace x12 := x11.trans x12)
            | (go_at_call 23; refine (hrf _ x12).mono ?_; rintro e w13 ⟨rfl, x13⟩; replace x13 := x12.trans x13)
            | (go_at_call 11; refine (aw _ x13).mono ?_; rintro e w7 ⟨rfl, hx7⟩))
          go_ret
          exact ⟨by first | rfl | (simp; done), x13.trans hx7⟩
end Go.Proofs.YtepgpejdnlejnaaDoor
