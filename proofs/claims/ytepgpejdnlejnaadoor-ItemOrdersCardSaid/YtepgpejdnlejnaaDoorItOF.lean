/- The law of ItemOrders, but for its last word. -/
import Derived.Test.YtepgpejdnlejnaaDoorItOE
import Derived.Test.YtepgpejdnlejnaaDoorItQ
import Derived.Deep.RegionHeld3
namespace Go.Proofs.YtepgpejdnlejnaaDoor
open Go.RowKit
set_option linter.unusedVariables false
set_option linter.unusedSimpArgs false
set_option linter.unusedSectionVars false
set_option maxRecDepth 20000
attribute [local go_sem] Oper.semAt_some

theorem rw_three {w w1 : World} {Q0 Q1 Q2 : Option Addr} {c0 c1 c2 : Nat} {r0 r1 r2 : List Vl} (h0 : SlV w Q0 c0 r0) (h1 : SlV w Q1 c1 r1) (h2 : SlV w Q2 c2 r2) {t : TypeId} (hx : Ext (w.alloc (.cells #[.slice Q0 r0.length c0, .slice Q1 r1.length c1, .slice Q2 r2.length c2] t)) w1) :
    SlG Rw.cells w1 (some ⟨w.heap.size, 0, none⟩) 3 [(Q0, c0, r0), (Q1, c1, r1), (Q2, c2, r2)] ∧ ∀ x ∈ [(Q0, c0, r0), (Q1, c1, r1), (Q2, c2, r2)], SlV w1 x.1 x.2.1 x.2.2 := by
  have key := box1 hx
  have hxx := ((Ext.refl w).alloc _).trans hx
  refine ⟨⟨fun i x hi => ⟨_, _, rfl, fun j v hj => ?_⟩, by simp, by omega⟩, fun x hx2 => ?_⟩
  · match j, hj with
    | 0, hj =>
      simp [Rw.cells] at hj
      subst hj
      match i, hi with
      | 0, hi => simp at hi; subst hi; exact key 0 _ rfl
      | 1, hi => simp at hi; subst hi; exact key 1 _ rfl
      | 2, hi => simp at hi; subst hi; exact key 2 _ rfl
      | i + 3, hi => simp at hi
    | j + 1, hj => simp [Rw.cells] at hj
  · simp at hx2
    rcases hx2 with rfl | rfl | rfl
    · exact h0.ext hxx
    · exact h1.ext hxx
    · exact h2.ext hxx

theorem compare_v (x y : Vl) (w : World) : Calls Tryd.prog 24 #[.agg #[.int .i64 x.1, .int .i64 x.2.1, .string x.2.2], .agg #[.int .i64 y.1, .int .i64 y.2.1, .string y.2.2]] w fun e w' => e = .returned (.int .i64 (cmpF x y)) ∧ Ext w w' := compare_any x y w
theorem rcompare_v (x y : Vl) (w : World) (hs : x.2.2.size ≤ 140737488355328) (ht : y.2.2.size ≤ 140737488355328) : Calls Tryd.prog 25 #[.agg #[.int .i64 x.1, .int .i64 x.2.1, .string x.2.2], .agg #[.int .i64 y.1, .int .i64 y.2.1, .string y.2.2]] w fun e w' => e = .returned (.int .i64 (cmpF x y)) ∧ Ext w w' := rcompare_any x y w hs ht
set_option maxHeartbeats 16000000 in
theorem orders_law (P0 P1 P2 : Option Addr) (c0 c1 c2 : Nat) (l0 l1 l2 : List Vl) (w : World) (aw : ∀ W, Ext w W → Calls Tryd.prog 11 #[] W fun e w' => e = .returned (.bool true) ∧ Ext W w')
    (s0 : SlV w P0 c0 l0) (s1 : SlV w P1 c1 l1) (s2 : SlV w P2 c2 l2) (o0 : ∀ x ∈ l0, x.2.2.size ≤ 140737488355328) (o1 : ∀ x ∈ l1, x.2.2.size ≤ 140737488355328) (o2 : ∀ x ∈ l2, x.2.2.size ≤ 140737488355328) :
    Calls Tryd.prog 4 #[.slice P0 l0.length c0, .slice P1 l1.length c1, .slice P2 l2.length c2] w fun e w' => e = .returned (.bool true) ∧ Ext w w' := by
  have hlen0 := s0.len
  have hlen1 := s1.len
  have hlen2 := s2.len
  have hR := fun (t : TypeId) (W : World) (hx : Ext (w.alloc (.cells #[.slice P0 l0.length c0, .slice P1 l1.length c1, .slice P2 l2.length c2] t)) W) => lrows_any (some ⟨w.heap.size, 0, none⟩) 3 [(P0, c0, l0), (P1, c1, l1), (P2, c2, l2)] W (rw_three s0 s1 s2 hx).1 (rw_three s0 s1 s2 hx).2
  go_enter Tryd.func4, Tryd.ntmps4
  go_wp2_with (first
    | (go_at_call 10; refine (hR _ _ (Ext.refl _)).mono ?_; rintro e w1 ⟨⟨b2, rfl⟩, rfl⟩; cases b2)
    | (go_at_call 11; refine (aw _ (by first | exact Ext.refl _ | exact (Ext.refl _).alloc _)).mono ?_; rintro e w7 ⟨rfl, hx7⟩))
  all_goals first
    | (go_ret; exact ⟨rfl, hx7⟩)
    | (go_ret; exact ⟨rfl, ((Ext.refl _).alloc _).trans hx7⟩)
    | skip
  have hx0 := (Ext.refl w).alloc (.cells #[.slice P0 l0.length c0, .slice P1 l1.length c1, .slice P2 l2.length c2] 23)
  clear hR
  go_loopw [7] (fun i wr => ∃ k : Nat, k ≤ l0.length ∧ i = .int .i64 k ∧ Ext w wr) (fun i _ => l0.length - (intOf i).toNat)
  case atStart => exact ⟨0, by omega, rfl, hx0⟩
  case round =>
    obtain ⟨k, hk, rfl, hx⟩ := hrel
    have EXIT : k = l0.length ∨ l1.length ≤ k ∨ (k < l0.length ∧ k < l1.length) := by omega
    by_cases hin : k < l0.length ∧ k < l1.length
    · obtain ⟨hlt, hlt2⟩ := hin
      obtain ⟨b, off, hP, p0, p1, p2⟩ := s0.valAt k hlt
      obtain ⟨b2, off2, hQ, q0, q1, q2⟩ := s1.valAt k hlt2
      subst hP
      subst hQ
      have p0 := hx.cell p0
      have p1 := hx.cell p1
      have p2 := hx.cell p2
      have q0 := hx.cell q0
      have q1 := hx.cell q1
      have q2 := hx.cell q2
      have e1 : (k : Int) < l0.length := by omega
      have e2 : (k : Int) < l1.length := by omega
      have d1 : IntKind.i64.wrap ((k : Int) + 1) = (k : Int) + 1 := IntWalk.i64_in _ ⟨by omega, by omega⟩
      have z0 := o0 _ (nthV_mem hlt)
      have z1 := o1 _ (nthV_mem hlt2)
      have hxw : Ext wr wr := Ext.refl wr
      have hxd : Ext wr wr.drew := hxw.drew
      have d3 : IntKind.i64.wrap (- cmpF (nthV l1 k) (nthV l0 k)) = cmpF (nthV l0 k) (nthV l1 k) := by
        rw [ord_cmp.anti (nthV l0 k) (nthV l1 k)]
        have := ord_cmp.rng (nthV l1 k) (nthV l0 k)
        exact IntWalk.i64_in _ ⟨by omega, by omega⟩
      clear EXIT hx0
      generalize nthV l0 k = x at *
      generalize nthV l1 k = y at *
      go_wp2
      go_region_held3 (fun w' => Ext wr w' ∧ w'.cell? ⟨b, off + k * 3, none⟩ = some (.int .i64 x.1) ∧ w'.cell? ⟨b, off + k * 3 + 1, none⟩ = some (.int .i64 x.2.1) ∧ w'.cell? ⟨b, off + k * 3 + 2, none⟩ = some (.string x.2.2) ∧ w'.cell? ⟨b2, off2 + k * 3, none⟩ = some (.int .i64 y.1) ∧ w'.cell? ⟨b2, off2 + k * 3 + 1, none⟩ = some (.int .i64 y.2.1) ∧ w'.cell? ⟨b2, off2 + k * 3 + 2, none⟩ = some (.string y.2.2)) (((try dsimp only); (repeat' apply And.intro); all_goals first | assumption | (exact Ext.drew (by assumption)) | (exact Ext.trans (by assumption) x3) | (exact Ext.trans (by assumption) x4) | (refine Ext.cell ?_ p0; first | assumption | (exact Ext.drew (by assumption)) | (exact Ext.trans (by assumption) x3) | (exact Ext.trans (by assumption) x4)) | (refine Ext.cell ?_ p1; first | assumption | (exact Ext.drew (by assumption)) | (exact Ext.trans (by assumption) x3) | (exact Ext.trans (by assumption) x4)) | (refine Ext.cell ?_ p2; first | assumption | (exact Ext.drew (by assumption)) | (exact Ext.trans (by assumption) x3) | (exact Ext.trans (by assumption) x4)) | (refine Ext.cell ?_ q0; first | assumption | (exact Ext.drew (by assumption)) | (exact Ext.trans (by assumption) x3) | (exact Ext.trans (by assumption) x4)) | (refine Ext.cell ?_ q1; first | assumption | (exact Ext.drew (by assumption)) | (exact Ext.trans (by assumption) x3) | (exact Ext.trans (by assumption) x4)) | (refine Ext.cell ?_ q2; first | assumption | (exact Ext.drew (by assumption)) | (exact Ext.trans (by assumption) x3) | (exact Ext.trans (by assumption) x4))))
        (first
          | (go_at_call 24; refine (compare_v _ _ _).mono ?_; rintro e w3 ⟨rfl, x3⟩; first | (have y3 := Ext.trans y3 x3) | (have y3 := Ext.trans y4 x3) | (have y3 := Ext.trans hxd x3))
          | (go_at_call 25; refine (rcompare_v _ _ _ z0 z1).mono ?_; rintro e w4 ⟨rfl, x4⟩; first | (have y4 := Ext.trans y3 x4) | (have y4 := Ext.trans hxd x4))
          | fail)
      go_wp2
      go_roundw
      case rel => exact ⟨k + 1, by omega, by go_num, hx.trans y3⟩
      case measure => simp [intOf]; omega
    · have hno := Lib.hid hin
      clear hin hx0 EXIT
      have yc := hx
      have h01 := fun W hx => cmprows_any P0 P1 c0 c1 l0 l1 W (s0.ext hx) (s1.ext hx)
      have h12 := fun W hx => cmprows_any P1 P2 c1 c2 l1 l2 W (s1.ext hx) (s2.ext hx)
      have h02 := fun W hx => cmprows_any P0 P2 c0 c2 l0 l2 W (s0.ext hx) (s2.ext hx)
      have h10 := fun W hx => cmprows_any P1 P0 c1 c0 l1 l0 W (s1.ext hx) (s0.ext hx)
      have g01 := fun W hx => rcmprows_any P0 P1 c0 c1 l0 l1 W (s0.ext hx) (s1.ext hx) o0 o1
      have m01 := fun W hx => same_any P0 P1 c0 c1 l0 l1 W (s0.ext hx) (s1.ext hx)
      have m00 := fun W hx => same_any P0 P0 c0 c0 l0 l0 W (s0.ext hx) (s0.ext hx)
      have r01 := fun W hx => rsame_any P0 P1 c0 c1 l0 l1 W (s0.ext hx) (s1.ext hx) o0 o1
      have e00 : crF l0 l0 = 0 := (ord_rows.eq0 _ _).2 rfl
      have ea := ord_rows.anti l1 l0
      have et := ord_rows.trans l0 l1 l2
      have eq : crF l0 l1 = 0 → crF l1 l2 = crF l0 l2 := fun h => by rw [(ord_rows.eq0 _ _).1 h]
      have rz := ord_rows.rng l0 l2
      have w1 : IntKind.i64.wrap 1 = 1 := IntWalk.i64_in _ ⟨by omega, by omega⟩
      have w2 : IntKind.i64.wrap (-1) = -1 := IntWalk.i64_in _ ⟨by omega, by omega⟩
      have w3 : IntKind.i64.wrap 0 = 0 := IntWalk.i64_in _ ⟨by omega, by omega⟩
      simp only [e00, decide_true] at m00
      clear e00
      rcases ord_rows.rng l0 l1 with ex | ex | ex
      · rw [ex] at ea et
        simp only [ex] at h01 g01 m01 r01
        simp only [ea] at h10
        clear eq ex ea
        generalize crF l1 l2 = y at *
        generalize crF l0 l2 = z at *
        by_cases hy : y ≤ 0
        · have hz : z ≤ 0 := et (by omega) hy
          have hz2 : decide (0 < z) = false := decide_eq_false (by omega)
          clear et rz
          skip
          go_wp2_with (first
            | (go_at_call 26; with_reducible refine (h01 _ yc).mono ?_; rintro e w8 ⟨rfl, x8⟩; replace yc := yc.trans x8)
            | (go_at_call 26; with_reducible refine (h12 _ yc).mono ?_; rintro e w8 ⟨rfl, x8⟩; replace yc := yc.trans x8)
            | (go_at_call 26; with_reducible refine (h02 _ yc).mono ?_; rintro e w8 ⟨rfl, x8⟩; replace yc := yc.trans x8)
            | (go_at_call 26; with_reducible refine (h10 _ yc).mono ?_; rintro e w8 ⟨rfl, x8⟩; replace yc := yc.trans x8)
            | (go_at_call 27; with_reducible refine (g01 _ yc).mono ?_; rintro e w8 ⟨rfl, x8⟩; replace yc := yc.trans x8)
            | (go_at_call 28; with_reducible refine (m01 _ yc).mono ?_; rintro e w8 ⟨rfl, x8⟩; replace yc := yc.trans x8)
            | (go_at_call 28; with_reducible refine (m00 _ yc).mono ?_; rintro e w8 ⟨rfl, x8⟩; replace yc := yc.trans x8)
            | (go_at_call 29; with_reducible refine (r01 _ yc).mono ?_; rintro e w8 ⟨rfl, x8⟩; replace yc := yc.trans x8)
            | (go_at_call 11; refine (aw _ yc).mono ?_; rintro e w7 ⟨rfl, hx7⟩))
          all_goals first
            | (exfalso; have := hno.out; omega)
            | (go_ret
               exact ⟨by first | rfl | (simp; done), yc.trans hx7⟩)
        · have hy2 : decide (y ≤ 0) = false := decide_eq_false hy
          clear hy et rz
          skip
          go_wp2_with (first
            | (go_at_call 26; with_reducible refine (h01 _ yc).mono ?_; rintro e w8 ⟨rfl, x8⟩; replace yc := yc.trans x8)
            | (go_at_call 26; with_reducible refine (h12 _ yc).mono ?_; rintro e w8 ⟨rfl, x8⟩; replace yc := yc.trans x8)
            | (go_at_call 26; with_reducible refine (h02 _ yc).mono ?_; rintro e w8 ⟨rfl, x8⟩; replace yc := yc.trans x8)
            | (go_at_call 26; with_reducible refine (h10 _ yc).mono ?_; rintro e w8 ⟨rfl, x8⟩; replace yc := yc.trans x8)
            | (go_at_call 27; with_reducible refine (g01 _ yc).mono ?_; rintro e w8 ⟨rfl, x8⟩; replace yc := yc.trans x8)
            | (go_at_call 28; with_reducible refine (m01 _ yc).mono ?_; rintro e w8 ⟨rfl, x8⟩; replace yc := yc.trans x8)
            | (go_at_call 28; with_reducible refine (m00 _ yc).mono ?_; rintro e w8 ⟨rfl, x8⟩; replace yc := yc.trans x8)
            | (go_at_call 29; with_reducible refine (r01 _ yc).mono ?_; rintro e w8 ⟨rfl, x8⟩; replace yc := yc.trans x8)
            | (go_at_call 11; refine (aw _ yc).mono ?_; rintro e w7 ⟨rfl, hx7⟩))
          all_goals first
            | (exfalso; have := hno.out; omega)
            | (go_ret
               exact ⟨by first | rfl | (simp; done), yc.trans hx7⟩)
      · have eyz := eq ex
        rw [ex] at ea
        simp only [ex, eyz] at h01 g01 m01 r01 h12
        simp only [ea] at h10
        clear eq ex ea eyz et
        generalize crF l0 l2 = z at *
        by_cases hz : z ≤ 0
        · have hz2 : decide (0 < z) = false := decide_eq_false (by omega)
          clear rz
          skip
          go_wp2_with (first
            | (go_at_call 26; with_reducible refine (h01 _ yc).mono ?_; rintro e w8 ⟨rfl, x8⟩; replace yc := yc.trans x8)
            | (go_at_call 26; with_reducible refine (h12 _ yc).mono ?_; rintro e w8 ⟨rfl, x8⟩; replace yc := yc.trans x8)
            | (go_at_call 26; with_reducible refine (h02 _ yc).mono ?_; rintro e w8 ⟨rfl, x8⟩; replace yc := yc.trans x8)
            | (go_at_call 26; with_reducible refine (h10 _ yc).mono ?_; rintro e w8 ⟨rfl, x8⟩; replace yc := yc.trans x8)
            | (go_at_call 27; with_reducible refine (g01 _ yc).mono ?_; rintro e w8 ⟨rfl, x8⟩; replace yc := yc.trans x8)
            | (go_at_call 28; with_reducible refine (m01 _ yc).mono ?_; rintro e w8 ⟨rfl, x8⟩; replace yc := yc.trans x8)
            | (go_at_call 28; with_reducible refine (m00 _ yc).mono ?_; rintro e w8 ⟨rfl, x8⟩; replace yc := yc.trans x8)
            | (go_at_call 29; with_reducible refine (r01 _ yc).mono ?_; rintro e w8 ⟨rfl, x8⟩; replace yc := yc.trans x8)
            | (go_at_call 11; refine (aw _ yc).mono ?_; rintro e w7 ⟨rfl, hx7⟩))
          all_goals first
            | (exfalso; have := hno.out; omega)
            | (go_ret
               exact ⟨by first | rfl | (simp; done), yc.trans hx7⟩)
        · have hz2 : decide (z ≤ 0) = false := decide_eq_false hz
          clear hz rz
          skip
          go_wp2_with (first
            | (go_at_call 26; with_reducible refine (h01 _ yc).mono ?_; rintro e w8 ⟨rfl, x8⟩; replace yc := yc.trans x8)
            | (go_at_call 26; with_reducible refine (h12 _ yc).mono ?_; rintro e w8 ⟨rfl, x8⟩; replace yc := yc.trans x8)
            | (go_at_call 26; with_reducible refine (h02 _ yc).mono ?_; rintro e w8 ⟨rfl, x8⟩; replace yc := yc.trans x8)
            | (go_at_call 26; with_reducible refine (h10 _ yc).mono ?_; rintro e w8 ⟨rfl, x8⟩; replace yc := yc.trans x8)
            | (go_at_call 27; with_reducible refine (g01 _ yc).mono ?_; rintro e w8 ⟨rfl, x8⟩; replace yc := yc.trans x8)
            | (go_at_call 28; with_reducible refine (m01 _ yc).mono ?_; rintro e w8 ⟨rfl, x8⟩; replace yc := yc.trans x8)
            | (go_at_call 28; with_reducible refine (m00 _ yc).mono ?_; rintro e w8 ⟨rfl, x8⟩; replace yc := yc.trans x8)
            | (go_at_call 29; with_reducible refine (r01 _ yc).mono ?_; rintro e w8 ⟨rfl, x8⟩; replace yc := yc.trans x8)
            | (go_at_call 11; refine (aw _ yc).mono ?_; rintro e w7 ⟨rfl, hx7⟩))
          all_goals first
            | (exfalso; have := hno.out; omega)
            | (go_ret
               exact ⟨by first | rfl | (simp; done), yc.trans hx7⟩)
      · rw [ex] at ea
        simp only [ex] at h01 g01 m01 r01
        simp only [ea] at h10
        clear eq ex ea et rz
        generalize crF l1 l2 = y at *
        generalize crF l0 l2 = z at *
        skip
        go_wp2_with (first
          | (go_at_call 26; with_reducible refine (h01 _ yc).mono ?_; rintro e w8 ⟨rfl, x8⟩; replace yc := yc.trans x8)
          | (go_at_call 26; with_reducible refine (h12 _ yc).mono ?_; rintro e w8 ⟨rfl, x8⟩; replace yc := yc.trans x8)
          | (go_at_call 26; with_reducible refine (h02 _ yc).mono ?_; rintro e w8 ⟨rfl, x8⟩; replace yc := yc.trans x8)
          | (go_at_call 26; with_reducible refine (h10 _ yc).mono ?_; rintro e w8 ⟨rfl, x8⟩; replace yc := yc.trans x8)
          | (go_at_call 27; with_reducible refine (g01 _ yc).mono ?_; rintro e w8 ⟨rfl, x8⟩; replace yc := yc.trans x8)
          | (go_at_call 28; with_reducible refine (m01 _ yc).mono ?_; rintro e w8 ⟨rfl, x8⟩; replace yc := yc.trans x8)
          | (go_at_call 28; with_reducible refine (m00 _ yc).mono ?_; rintro e w8 ⟨rfl, x8⟩; replace yc := yc.trans x8)
          | (go_at_call 29; with_reducible refine (r01 _ yc).mono ?_; rintro e w8 ⟨rfl, x8⟩; replace yc := yc.trans x8)
          | (go_at_call 11; refine (aw _ yc).mono ?_; rintro e w7 ⟨rfl, hx7⟩))
        all_goals first
          | (exfalso; have := hno.out; omega)
          | (go_ret
             exact ⟨by first | rfl | (simp; done), yc.trans hx7⟩)
end Go.Proofs.YtepgpejdnlejnaaDoor
