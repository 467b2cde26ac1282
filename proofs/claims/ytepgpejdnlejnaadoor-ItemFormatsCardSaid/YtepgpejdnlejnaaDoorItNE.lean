/- The law of ItemNarrows, but for its last word. -/
import Derived.Test.YtepgpejdnlejnaaDoorItNB
import Derived.Test.YtepgpejdnlejnaaDoorItNC
import Derived.Test.YtepgpejdnlejnaaDoorQ08
namespace Go.Proofs.YtepgpejdnlejnaaDoor
open Go.RowKit
set_option linter.unusedVariables false
set_option linter.unusedSimpArgs false
set_option linter.unusedSectionVars false
set_option maxRecDepth 20000
attribute [local go_sem] Oper.semAt_some

set_option maxHeartbeats 8000000 in
theorem sameitems_yes (P Q : Option Addr) (c d : Nat) (l : List It) (w : World) (h : SlT w P c l) (h2 : SlT w Q d l) :
    Calls Tryd.prog 33 #[.slice P l.length c, .slice Q l.length d] w fun e w' => e = .returned (.bool true) ∧ Ext w w' := by
  have hlen := h.len
  go_enter Tryd.func33, Tryd.ntmps33
  go_wp2
  go_loopw [5] (fun i wr => ∃ k : Nat, k ≤ l.length ∧ i = .int .i64 k ∧ Ext w wr) (fun i _ => l.length - (intOf i).toNat)
  case atStart => exact ⟨0, by omega, rfl, Ext.refl w⟩
  case round =>
    obtain ⟨k, hk, rfl, hx⟩ := hrel
    by_cases hlt : k < l.length
    · obtain ⟨b, off, hP, g0, g1, g2, g3, g4⟩ := h.itemAt k hlt
      obtain ⟨b2, off2, hQ, q0, q1, q2, q3, q4⟩ := h2.itemAt k hlt
      subst hP
      subst hQ
      have g0 := hx.cell g0
      have g1 := hx.cell g1
      have g2 := hx.cell g2
      have g3 := hx.cell g3
      have g4 := hx.cell g4
      have q0 := hx.cell q0
      have q1 := hx.cell q1
      have q2 := hx.cell q2
      have q3 := hx.cell q3
      have q4 := hx.cell q4
      have c1 : (k : Int) < l.length := by omega
      have d1 : IntKind.i64.wrap ((k : Int) + 1) = (k : Int) + 1 := IntWalk.i64_in _ ⟨by omega, by omega⟩
      have hG := fun (op : BinOp) (u v : Operand) (xs ys : Array Value) (W : World) => run_eqGuard_agg (P := Tryd.prog) W op 32 u v xs ys (by kernel_rfl)
      generalize nthT l k = x at *
      go_wp2
      go_quiet (fail)
      go_wp2
      go_roundw
      case rel => exact ⟨k + 1, by omega, by go_num, hx.drewN _⟩
      case measure => simp [intOf]; omega
    · obtain rfl : k = l.length := by omega
      go_wp2
      go_ret
      exact ⟨rfl, hx⟩
set_option maxHeartbeats 16000000 in
theorem narrows_law (P Q R : Option Addr) (cap cap2 cap3 : Nat) (l : List It) (r : List Vl) (names : List ByteArray) (w : World) (aw : ∀ W, Ext w W → Calls Tryd.prog 11 #[] W fun e w' => e = .returned (.bool true) ∧ Ext W w')
    (h : SlT w P cap l) (h2 : SlV w Q cap2 r) (h3 : SlS w R cap3 names) :
    Calls Tryd.prog 5 #[.slice P l.length cap, .slice Q r.length cap2, .slice R names.length cap3] w fun e w' => e = .returned (.bool true) ∧ Ext w w' := by
  have hlen := h.len
  have hlen2 := h2.len
  have hlen3 := h3.len
  have hI := fun W hx => litems_any P cap l W (h.ext hx)
  have hN := fun W hx => lnames_any R cap3 names W (h3.ext hx)
  have hR := fun (t : TypeId) (W : World) (hx : Ext (w.alloc (.cells #[.slice Q r.length cap2] t)) W) => lrows_any (some ⟨w.heap.size, 0, none⟩) 1 [(Q, cap2, r)] W (rw_one h2 hx).1 (rw_one h2 hx).2
  have hb0 := fun t => (Ext.refl w).alloc (.cells #[.slice Q r.length cap2] t)
  go_enter Tryd.func5, Tryd.ntmps5
  go_wp2_with (first
    | (go_at_call 9; refine (hI _ (Ext.refl _)).mono ?_; rintro e w1 ⟨⟨b1, rfl⟩, rfl⟩; cases b1)
    | (go_at_call 10; refine (hR _ _ (Ext.refl _)).mono ?_; rintro e w1 ⟨⟨b2, rfl⟩, rfl⟩; cases b2)
    | (go_at_call 30; refine (hN _ (hb0 _)).mono ?_; rintro e w1 ⟨⟨b3, rfl, hn20⟩, rfl⟩; cases b3)
    | (go_at_call 11; refine (aw _ (by first | exact Ext.refl _ | exact hb0 _)).mono ?_; rintro e w7 ⟨rfl, hx7⟩))
  all_goals first
    | (go_ret; exact ⟨rfl, hx7⟩)
    | (go_ret; exact ⟨rfl, (hb0 _).trans hx7⟩)
    | skip
  replace hn20 : names.length ≤ 20 := by first | exact hn20 | exact hn20 rfl | (simpa using hn20)
  have yc := hb0 23
  clear hb0 hR hI hN
  have p1 := fun W hx => narrow_any P R cap cap3 l names W (h.ext hx) (h3.ext hx) hn20
  have p2 := fun W hx => rnarrow_any P R cap cap3 l names W (h.ext hx) (h3.ext hx) hn20
  have r1 := fun W hx => rename_any P R cap cap3 l names W (h.ext hx) (h3.ext hx)
  have r2 := fun W hx => rrename_any P R cap cap3 l names W (h.ext hx) (h3.ext hx)
  have f1 := fun W hx => fits_any P Q cap cap2 l r W (h.ext hx) (h2.ext hx)
  generalize renameF l names = rf at *
  obtain ⟨rl, re⟩ := rf
  by_cases hfe : (narrowF l names).2 = 0 ∧ fitsB l r = true
  · obtain ⟨e1, e2, e3⟩ := narrow_fits hfe.1 hfe.2
    have k1 := fun W hx => pick_any P Q R cap cap2 cap3 l r names W (h.ext hx) (h2.ext hx) (h3.ext hx) hn20
    have k2 := fun W P9 c9 Q9 d9 s9 t9 => fits_any P9 Q9 c9 d9 (narrowed l names) (picked l r names) W s9 t9
    simp only [e1] at p1 p2
    simp only [e2] at k1
    simp only [e3] at k2
    simp only [hfe.2] at f1
    clear hfe e1 e2 e3
    generalize narrowed l names = nl at *
    generalize picked l r names = pl at *
    go_wp2_with (first
      | (go_at_call 31; refine (p1 _ yc).mono ?_; rintro e w2 ⟨⟨u, rfl, Q1, d1, rfl, s1⟩, x2⟩; replace yc := yc.trans x2)
      | (go_at_call 32; refine (p2 _ yc).mono ?_; rintro e w3 ⟨⟨u, rfl, Q2, d2, rfl, s2⟩, x3⟩; replace yc := yc.trans x3; replace s1 := s1.ext x3)
      | (go_at_call 33; with_reducible refine (sameitems_yes _ _ _ _ _ _ s1 s2).mono ?_; rintro e w4 ⟨rfl, x4⟩; replace yc := yc.trans x4; replace s1 := s1.ext x4)
      | (go_at_call 34; refine (k1 _ yc).mono ?_; rintro e w5 ⟨⟨u, rfl, Q5, d5, rfl, s5⟩, x5⟩; replace yc := yc.trans x5; replace s1 := s1.ext x5)
      | (go_at_call 22; with_reducible refine (f1 _ yc).mono ?_; rintro e w6 ⟨rfl, x6⟩; replace yc := yc.trans x6; replace s1 := s1.ext x6)
      | (go_at_call 22; with_reducible refine (k2 _ _ _ _ _ s1 s5).mono ?_; rintro e w6 ⟨rfl, x6⟩; replace yc := yc.trans x6)
      | (go_at_call 35; refine (r1 _ yc).mono ?_; rintro e w8 ⟨⟨u, rfl, Q8, d8, rfl, s8⟩, x8⟩; replace yc := yc.trans x8)
      | (go_at_call 36; refine (r2 _ yc).mono ?_; rintro e w9 ⟨⟨u, rfl, Q9, d9, rfl, s9⟩, x9⟩; replace yc := yc.trans x9; replace s8 := s8.ext x9)
      | (go_at_call 33; with_reducible refine (sameitems_yes _ _ _ _ _ _ s8 s9).mono ?_; rintro e w4 ⟨rfl, x4⟩; replace yc := yc.trans x4)
      | (go_at_call 11; refine (aw _ yc).mono ?_; rintro e w7 ⟨rfl, hx7⟩))
    go_ret
    exact ⟨rfl, yc.trans hx7⟩
  · have HNO := Lib.hid hfe
    clear hfe
    generalize narrowF l names = nf at *
    obtain ⟨nl, ne⟩ := nf
    simp only at p1 p2
    generalize fitsB l r = fb at *
    by_cases h0 : ne = 0
    · have hfb : fb = false := by
        cases fb with
        | false => rfl
        | true => exact absurd ⟨h0, rfl⟩ HNO.out
      subst h0 hfb
      go_wp2_with (first
        | (go_at_call 31; refine (p1 _ yc).mono ?_; rintro e w2 ⟨⟨u, rfl, Q1, d1, rfl, s1⟩, x2⟩; replace yc := yc.trans x2)
        | (go_at_call 32; refine (p2 _ yc).mono ?_; rintro e w3 ⟨⟨u, rfl, Q2, d2, rfl, s2⟩, x3⟩; replace yc := yc.trans x3; replace s1 := s1.ext x3)
        | (go_at_call 33; with_reducible refine (sameitems_yes _ _ _ _ _ _ s1 s2).mono ?_; rintro e w4 ⟨rfl, x4⟩; replace yc := yc.trans x4; replace s1 := s1.ext x4)
        | (go_at_call 22; with_reducible refine (f1 _ yc).mono ?_; rintro e w6 ⟨rfl, x6⟩; replace yc := yc.trans x6; replace s1 := s1.ext x6)
        | (go_at_call 35; refine (r1 _ yc).mono ?_; rintro e w8 ⟨⟨u, rfl, Q8, d8, rfl, s8⟩, x8⟩; replace yc := yc.trans x8)
        | (go_at_call 36; refine (r2 _ yc).mono ?_; rintro e w9 ⟨⟨u, rfl, Q9, d9, rfl, s9⟩, x9⟩; replace yc := yc.trans x9; replace s8 := s8.ext x9)
        | (go_at_call 33; with_reducible refine (sameitems_yes _ _ _ _ _ _ s8 s9).mono ?_; rintro e w4 ⟨rfl, x4⟩; replace yc := yc.trans x4)
        | (go_at_call 11; refine (aw _ yc).mono ?_; rintro e w7 ⟨rfl, hx7⟩))
      go_ret
      exact ⟨rfl, yc.trans hx7⟩
    · have h0' : (ne == 0) = false := by simpa using h0
      clear h0
      go_wp2_with (first
        | (go_at_call 31; refine (p1 _ yc).mono ?_; rintro e w2 ⟨⟨u, rfl, Q1, d1, rfl, s1⟩, x2⟩; replace yc := yc.trans x2)
        | (go_at_call 32; refine (p2 _ yc).mono ?_; rintro e w3 ⟨⟨u, rfl, Q2, d2, rfl, s2⟩, x3⟩; replace yc := yc.trans x3; replace s1 := s1.ext x3)
        | (go_at_call 33; with_reducible refine (sameitems_yes _ _ _ _ _ _ s1 s2).mono ?_; rintro e w4 ⟨rfl, x4⟩; replace yc := yc.trans x4; replace s1 := s1.ext x4)
        | (go_at_call 22; with_reducible refine (f1 _ yc).mono ?_; rintro e w6 ⟨rfl, x6⟩; replace yc := yc.trans x6; replace s1 := s1.ext x6)
        | (go_at_call 35; refine (r1 _ yc).mono ?_; rintro e w8 ⟨⟨u, rfl, Q8, d8, rfl, s8⟩, x8⟩; replace yc := yc.trans x8)
        | (go_at_call 36; refine (r2 _ yc).mono ?_; rintro e w9 ⟨⟨u, rfl, Q9, d9, rfl, s9⟩, x9⟩; replace yc := yc.trans x9; replace s8 := s8.ext x9)
        | (go_at_call 33; with_reducible refine (sameitems_yes _ _ _ _ _ _ s8 s9).mono ?_; rintro e w4 ⟨rfl, x4⟩; replace yc := yc.trans x4)
        | (go_at_call 11; refine (aw _ yc).mono ?_; rintro e w7 ⟨rfl, hx7⟩))
      go_ret
      exact ⟨rfl, yc.trans hx7⟩
end Go.Proofs.YtepgpejdnlejnaaDoor
