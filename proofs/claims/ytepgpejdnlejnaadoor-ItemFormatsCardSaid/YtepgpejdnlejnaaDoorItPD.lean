/- Items: Default of both. -/
import Derived.Test.YtepgpejdnlejnaaDoorQ11
import Derived.StillTailTactics
namespace Go.Proofs.YtepgpejdnlejnaaDoor
open Go.RowKit
set_option linter.unusedVariables false
set_option linter.unusedSimpArgs false
set_option linter.unusedSectionVars false
set_option maxRecDepth 20000
attribute [local go_sem] Oper.semAt_some

def defV (x : It) : Vl := (x.2.1, if x.2.1 = 1 then min (max 0 x.2.2.1) x.2.2.2.1 else 0, ⟨#[]⟩)
def defF (l : List It) : List Vl × Int := if itemsB l = true then (l.map defV, 0) else ([], 1)
theorem defs_take {l : List It} {k : Nat} (hk : k < l.length) : (l.take (k + 1)).map defV = (l.take k).map defV ++ [defV (nthT l k)] := by
  rw [List.take_add_one, nthT_some hk]
  simp
set_option maxHeartbeats 8000000 in
theorem default_any (P : Option Addr) (cap : Nat) (l : List It) (w : World) (h : SlT w P cap l) :
    Calls Tryd.prog 42 #[.slice P l.length cap] w fun e w' => (∃ u, e = .returned (.tuple #[u, .int .i64 (defF l).2]) ∧ ResV w' u (defF l).1) ∧ Ext w w' := by
  have hlen := h.len
  have hF := items_any P cap l w h
  cases hf : itemsB l with
  | false =>
    have HB := Lib.hid (show defF l = ([], 1) from by simp [defF, hf])
    rw [hf] at hF
    rw [HB.out]
    go_enter Tryd.func42, Tryd.ntmps42
    go_wp2_with (go_at_call 20; refine hF.mono ?_; rintro e w1 ⟨rfl, hx1⟩)
    go_ret2
    exact ⟨⟨_, rfl, ResV.nil _⟩, hx1⟩
  | true =>
    have HB := Lib.hid (show defF l = (l.map defV, 0) from by simp [defF, hf])
    have hl := items_le8 hf
    rw [hf] at hF
    rw [HB.out]
    clear hf
    go_enter Tryd.func42, Tryd.ntmps42
    go_wp2_with (go_at_call 20; refine hF.mono ?_; rintro e w1 ⟨rfl, hx1⟩)
    go_loopw [13, 4, 6, 7] (fun i v _ _ wr => ∃ k : Nat, k ≤ l.length ∧ i = .int .i64 k ∧ OwnG Vl.cells 29 3 wr w.heap.size v ((l.take k).map defV) ∧ Ext w wr) (fun i _ _ _ _ => l.length - (intOf i).toNat)
    case atStart => exact ⟨0, by omega, rfl, OwnG.nil _ _ _ _ _, hx1⟩
    case round =>
      obtain ⟨k, hk, rfl, hown, hx⟩ := hrel
      by_cases hlt : k < l.length
      · obtain ⟨b, off, hP, g0, g1, g2, g3, g4⟩ := h.itemAt k hlt
        subst hP
        have g0 := hx.cell g0
        have g1 := hx.cell g1
        have g2 := hx.cell g2
        have g3 := hx.cell g3
        have g4 := hx.cell g4
        have c1 : (k : Int) < l.length := by omega
        have d1 : IntKind.i64.wrap ((k : Int) + 1) = (k : Int) + 1 := IntWalk.i64_in _ ⟨by omega, by omega⟩
        have Hs := Lib.hid (defs_take hlt)
        have Hd := Lib.hid (show defV (nthT l k) = ((nthT l k).2.1, if (nthT l k).2.1 = 1 then min (max 0 (nthT l k).2.2.1) (nthT l k).2.2.2.1 else 0, ⟨#[]⟩) from rfl)
        have HO := Lib.hid hown
        generalize defV (nthT l k) = dv at *
        generalize nthT l k = x at *
        obtain ⟨x0, x1, x2, x3, x4⟩ := x
        simp only at g0 g1 g2 g3 g4 Hd
        clear hown
        by_cases h1 : x1 = 1
        · subst h1
          go_wp2_with (at_builtin; refine wpList_app_G _ elemV rfl _ _ rfl (base := w.heap.size) rfl (HO.out.ext ((((Ext.refl _).alloc _).alloc _).alloc _)) (m := [(1, min (max 0 x2) x3, ⟨#[]⟩)]) rfl (SlG.one elemV.hk _ ?c1 ?c2) ?c3 ?c4 ?c5 ?c6 ?_)
          case c1 => rfl
          case c4 => first | omega | (simp; omega)
          case c5 => first | omega | (simp; omega)
          case c6 => have := hx.size; simp; omega
          intro v' w3 hown' hbl
          go_wp2
          go_roundw
          case rel => exact ⟨k + 1, by omega, by go_num, by rw [Hs.out, Hd.out]; simpa  using hown', below_ext ((((hx).alloc _).alloc _).alloc _) hbl (Nat.le_refl _)⟩
          case measure => simp [intOf]; omega
        · have h1' : (x1 == 1) = false := by simpa using h1
          go_wp2_with (at_builtin; refine wpList_app_G _ elemV rfl _ _ rfl (base := w.heap.size) rfl (HO.out.ext ((((Ext.refl _).alloc _).alloc _).alloc _)) (m := [(x1, 0, ⟨#[]⟩)]) rfl (SlG.one elemV.hk _ ?e1 ?e2) ?e3 ?e4 ?e5 ?e6 ?_)
          case e1 => rfl
          case e4 => first | omega | (simp; omega)
          case e5 => first | omega | (simp; omega)
          case e6 => have := hx.size; simp; omega
          intro v' w3 hown' hbl
          go_wp2
          go_roundw
          case rel => exact ⟨k + 1, by omega, by go_num, by rw [Hs.out, Hd.out]; simpa [h1] using hown', below_ext ((((hx).alloc _).alloc _).alloc _) hbl (Nat.le_refl _)⟩
          case measure => simp [intOf]; omega
      · obtain rfl : k = l.length := by omega
        rw [List.take_length] at hown
        obtain ⟨P9, cap9, hv9, s9⟩ := OwnG.slG elemV hown (by simp; omega)
        subst hv9
        go_wp2
        go_ret2
        exact ⟨⟨_, rfl, _, _, rfl, s9⟩, hx⟩

theorem minmax {a b : Int} (h : a ≤ b) : max a (min 0 b) = min (max 0 a) b := by omega
theorem items_low {l : List It} (h : itemsB l = true) {k : Nat} (hk : k < l.length) (h1 : (nthT l k).2.1 = 1) : (nthT l k).2.2.1 ≤ (nthT l k).2.2.2.1 := by
  have hg : goodT l k := by
    unfold itemsB knownB at h
    rw [Bool.and_eq_true, Bool.and_eq_true, List.all_eq_true] at h
    exact of_decide_eq_true (h.2.1 k (List.mem_range.2 hk))
  have hi := hg.1
  unfold itemB at hi
  rw [if_pos h1, Bool.and_eq_true] at hi
  exact (of_decide_eq_true hi.2).1
set_option maxHeartbeats 8000000 in
theorem rdefault_any (P : Option Addr) (cap : Nat) (l : List It) (w : World) (h : SlT w P cap l) :
    Calls Tryd.prog 43 #[.slice P l.length cap] w fun e w' => (∃ u, e = .returned (.tuple #[u, .int .i64 (defF l).2]) ∧ ResV w' u (defF l).1) ∧ Ext w w' := by
  have hlen := h.len
  have hF := ritems_any P cap l w h
  cases hf : itemsB l with
  | false =>
    have HB := Lib.hid (show defF l = ([], 1) from by simp [defF, hf])
    rw [hf] at hF
    rw [HB.out]
    go_enter Tryd.func43, Tryd.ntmps43
    go_wp2_with (go_at_call 21; refine hF.mono ?_; rintro e w1 ⟨rfl, hx1⟩)
    go_ret2
    exact ⟨⟨_, rfl, ResV.nil _⟩, hx1⟩
  | true =>
    have HB := Lib.hid (show defF l = (l.map defV, 0) from by simp [defF, hf])
    have hl := items_le8 hf
    have HF := Lib.hid hf
    rw [hf] at hF
    rw [HB.out]
    clear hf
    go_enter Tryd.func43, Tryd.ntmps43
    go_wp2_with (go_at_call 21; refine hF.mono ?_; rintro e w1 ⟨rfl, hx1⟩)
    go_loopw [5, 4, 6] (fun i v _ wr => ∃ k : Nat, k ≤ l.length ∧ i = .int .i64 k ∧ OwnG Vl.cells 29 3 wr w.heap.size v ((l.take k).map defV) ∧ Ext w wr) (fun i _ _ _ => l.length - (intOf i).toNat)
    case atStart => exact ⟨0, by omega, rfl, OwnG.nil _ _ _ _ _, hx1⟩
    case round =>
      obtain ⟨k, hk, rfl, hown, hx⟩ := hrel
      by_cases hlt : k < l.length
      · obtain ⟨b, off, hP, g0, g1, g2, g3, g4⟩ := h.itemAt k hlt
        subst hP
        have y0 := hx.cell g0
        have y1 := hx.cell g1
        have y2 := hx.cell g2
        have y3 := hx.cell g3
        have y4 := hx.cell g4
        have hblt : b < wr.heap.size := block_lt y0
        have c1 : (k : Int) < l.length := by omega
        have d1 : IntKind.i64.wrap ((k : Int) + 1) = (k : Int) + 1 := IntWalk.i64_in _ ⟨by omega, by omega⟩
        have Hs := Lib.hid (defs_take hlt)
        have Hd := Lib.hid (show defV (nthT l k) = ((nthT l k).2.1, if (nthT l k).2.1 = 1 then min (max 0 (nthT l k).2.2.1) (nthT l k).2.2.2.1 else 0, ⟨#[]⟩) from rfl)
        have HM := Lib.hid (fun h1 => minmax (items_low HF.out hlt h1))
        have HO := Lib.hid hown
        generalize defV (nthT l k) = dv at *
        generalize nthT l k = x at *
        obtain ⟨x0, x1, x2, x3, x4⟩ := x
        simp only at y0 y1 y2 y3 y4 Hd HM
        clear g0 g1 g2 g3 g4
        clear hown
        by_cases h1 : x1 = 1
        · subst h1
          go_wp2
          have hxA := hx.alloc (.cells #[.int .i64 1, .int .i64 0, .string ⟨#[]⟩] 29)
          have hxW := (Ext.refl wr).alloc (.cells #[.int .i64 1, .int .i64 0, .string ⟨#[]⟩] 29)
          have k2 := hxW.cell y2
          have k3 := hxW.cell y3
          have m0 : (wr.alloc (.cells #[.int .i64 1, .int .i64 0, .string ⟨#[]⟩] 29)).cell? ⟨wr.heap.size, 0, none⟩ = some (.int .i64 1) := (World.cell?_alloc_mark _ _ _ _ 0).trans rfl
          have m1 : (wr.alloc (.cells #[.int .i64 1, .int .i64 0, .string ⟨#[]⟩] 29)).cell? ⟨wr.heap.size, 1, none⟩ = some (.int .i64 0) := (World.cell?_alloc_mark _ _ _ _ 1).trans rfl
          have m2 : (wr.alloc (.cells #[.int .i64 1, .int .i64 0, .string ⟨#[]⟩] 29)).cell? ⟨wr.heap.size, 2, none⟩ = some (.string ⟨#[]⟩) := (World.cell?_alloc_mark _ _ _ _ 2).trans rfl
          have m3 : (wr.alloc (.cells #[.int .i64 1, .int .i64 0, .string ⟨#[]⟩] 29)).frozen? ⟨wr.heap.size, 1, none⟩ = false := frozen_of_row _ _ _ _ _ (heap_alloc_new wr _)
          generalize wr.alloc (.cells #[.int .i64 1, .int .i64 0, .string ⟨#[]⟩] 29) = W at *
          go_still_tail 12, (by kernel_rfl)
          have HXW := Lib.hid hxW
          have HXA := Lib.hid hxA
          clear hxW hxA
          go_wp2_with (at_builtin; refine wpList_app_G _ elemV rfl _ _ rfl (base := w.heap.size) rfl (HO.out.ext (((HXW.out.setCell ?f7 _).alloc _).drew)) (m := [(1, max x2 (min 0 x3), ⟨#[]⟩)]) rfl ((SlG.one elemV.hk _ ?f1 ?f2).ext (Ext.refl _).drew) ?f3 ?f4 ?f5 ?f6 ?_)
          case f1 => rfl
          case f2 => simp
          case f3 => intro e; cases e
          case f4 => first | omega | (simp; omega)
          case f5 => first | omega | (simp; omega)
          case f6 => have := HXA.out.size; first | omega | (simp; omega)
          intro v' w3 hown' hbl
          go_wp2
          go_roundw
          case rel => exact ⟨k + 1, by omega, by go_num, by rw [Hs.out, Hd.out]; simp only [if_true]; rw [← HM.out trivial, List.map_take]; exact hown', below_ext (((HXA.out.setCell (by have := hx.size; simp; omega) _).alloc _).drew) hbl (Nat.le_refl _)⟩
          case measure => simp [intOf]; omega
        · have h1' : (x1 == 1) = false := by simpa using h1
          go_wp2_with (at_builtin; refine wpList_app_G _ elemV rfl _ _ rfl (base := w.heap.size) rfl (HO.out.ext (((Ext.refl _).alloc _).alloc _)) (m := [(x1, 0, ⟨#[]⟩)]) rfl (SlG.one elemV.hk _ ?e1 ?e2) ?e3 ?e4 ?e5 ?e6 ?_)
          case e1 => rfl
          case e2 => simp
          case e3 => intro e; cases e
          case e4 => first | omega | (simp; omega)
          case e5 => first | omega | (simp; omega)
          case e6 => have := hx.size; first | omega | (simp; omega)
          intro v' w3 hown' hbl
          go_wp2
          go_roundw
          case rel => exact ⟨k + 1, by omega, by go_num, by rw [Hs.out, Hd.out]; simpa [h1] using hown', below_ext ((hx.alloc _).alloc _) hbl (Nat.le_refl _)⟩
          case measure => simp [intOf]; omega
      · obtain rfl : k = l.length := by omega
        rw [List.take_length] at hown
        obtain ⟨P9, cap9, hv9, s9⟩ := OwnG.slG elemV hown (by simp; omega)
        subst hv9
        go_wp2
        go_ret2
        exact ⟨⟨_, rfl, _, _, rfl, s9⟩, hx⟩
end Go.Proofs.YtepgpejdnlejnaaDoor
