/- PcJ (merged by group.py) -/
import Derived.Test.YtcbainmpikcfjaaQ14
namespace Go.Proofs.Ytcbainmpikcfjaa
section
open Go.RowKit Go.Maps
set_option linter.unusedVariables false
set_option linter.unusedSimpArgs false
set_option linter.unusedSectionVars false
set_option maxRecDepth 20000
attribute [local go_sem] Oper.semAt_some

/-- the area's Put, where there is room: so the pages become, and this is the place -/
structure APut (size : Nat) (near : Int) (l : List ByteArray) (s : ByteArray) (l' : List ByteArray) (a : Adr) : Prop where
  run : ∀ (A g cap : Nat) (lv : List UInt8) (W : World), Sp W A g size l lv cap → Calls Try.prog 30 #[.pointer (some ⟨A, 0, none⟩), .int .i64 near, .string s] W fun e w' =>
    e = .returned (.tuple #[adV a, .int .i64 0]) ∧ (∃ lv', Sp w' A g size l' lv' cap) ∧ Chg A g W w'
  rng : (0 ≤ a.1 ∧ a.1 ≤ 1000) ∧ 0 ≤ a.2 ∧ a.2 ≤ 255
theorem UpdF.of_chg {A g : Nat} {w w' : World} (h : Chg A g w w') : UpdF (fun x => x = A ∨ x = g) w w' := ⟨h.os, h.tape, h.output, h.size, fun i hi hf => h.block i hi (fun e => hf (.inl e)) (fun e => hf (.inr e))⟩
theorem wdone_any (eb db hb : Nat) (w : World) (h1 : Boxed w eb 24 (.int .i64 0)) :
    CallsD Try.prog 28 #[.pointer (some ⟨eb, 0, none⟩), .pointer (some ⟨db, 0, none⟩), .pointer (some ⟨hb, 0, none⟩)] .returning w fun e u' w' => u' = .returning ∧ e = .returned (.tuple #[]) ∧ w = w' := by
  have c1 := h1.cell
  go_enter_d Try.func28, Try.ntmps28
  go_wp2
  go_end0
  exact ⟨rfl, rfl⟩
/-- the places written so far, the last first -/
def doneL (st : Nat → List ByteArray × Adr) (n i : Nat) : List Adr := (List.range (n - i)).map fun j => (st (n - 1 - j)).2
theorem doneL_succ (st : Nat → List ByteArray × Adr) {n i : Nat} (hi : i < n) : doneL st n i = doneL st n (i + 1) ++ [(st i).2] := by
  unfold doneL
  rw [show n - i = (n - (i + 1)) + 1 from by omega, List.range_succ, List.map_append]
  simp only [List.map_cons, List.map_nil]
  rw [show n - 1 - (n - (i + 1)) = i from by omega]
theorem doneL_len (st : Nat → List ByteArray × Adr) (n i : Nat) : (doneL st n i).length = n - i := by simp [doneL]
/-- the state of the writing -/
structure WrS (s0 nb gp cp h A g M size most cap : Nat) (mp : List (Int × Adr)) (pl : List ByteArray) (st : Nat → List ByteArray × Adr) (w : World) (i : Nat) (v : Value) (wr : World) : Prop where
  bh : Boxed wr s0 28 (.pointer (some ⟨h, 0, none⟩))
  be : Boxed wr (s0 + 1) 24 (.int .i64 0)
  bd : Boxed wr (s0 + 2) 34 v
  bn : BoxN wr nb 38 #[.int .i64 (st i).2.1, .int .i64 (st i).2.2]
  od : OwnAd wr (nb + 1) v (doneL st pl.length i)
  op : OwnS wr (s0 + 3) (.slice (some ⟨gp, 0, none⟩) pl.length cp) pl
  hp : ∃ lv', Hp wr h A g M size most cap (st i).1 lv' mp
  up : UpdF (fun x => x = A ∨ x = g) w wr
set_option maxHeartbeats 8000000 in
theorem write_ok {w : World} {h A g M size most cap : Nat} {l : List ByteArray} {lv : List UInt8} {mp : List (Int × Adr)} (H : Hp w h A g M size most cap l lv mp) (near k : Int) (s : ByteArray) (hk : 1 ≤ k ∧ k ≤ 1000000) (hs : s.size ≤ 4000) (hml : mp.length < 1000000) (pl : List ByteArray) (hpl : partsL most s = pl)
    (st : Nat → List ByteArray × Adr) (hst0 : st pl.length = (l, (0, 0))) (hst : ∀ i, i < pl.length → APut size near (st (i + 1)).1 (frB k s.size i (st (i + 1)).2 (pl.getD i ⟨#[]⟩)) (st i).1 (st i).2) :
    Calls Try.prog 19 #[.pointer (some ⟨h, 0, none⟩), .int .i64 near, .int .i64 k, .string s] w fun e w' => e = .returned (.int .i64 0) ∧ (∃ lv', Hp w' h A g M size most cap (st 0).1 lv' (putI mp k (st 0).2)) ∧ UpdF (fun x => x = A ∨ x = g ∨ x = M) w w' := by
  obtain ⟨q1, q2, q3, q4⟩ := H.lts
  have hmf : ∀ (fn : Fn) (first cap : Array Value) (w : World), (Instr.makeFunc fn first cap).run Try.prog w = .ok (.func fn first cap) w := fun _ _ _ _ => rfl
  obtain ⟨s0, hs0⟩ : ∃ s0, w.heap.size = s0 := ⟨_, rfl⟩
  obtain ⟨W0, hW0⟩ : ∃ W0, ((w.alloc (.cells #[.pointer (some ⟨h, 0, none⟩)] 28)).alloc (.cells #[.int .i64 0] 24)).alloc (.cells #[.slice none 0 0] 34) = W0 := ⟨_, rfl⟩
  have hx0 : Ext w W0 := by rw [← hW0]; exact (((Ext.refl w).alloc _).alloc _).alloc _
  have hz0 : W0.heap.size = s0 + 3 := by rw [← hW0]; simp; omega
  have b0 : Boxed W0 s0 28 (.pointer (some ⟨h, 0, none⟩)) := by rw [← hW0, ← hs0]; exact ((Boxed.new _ _ _).alloc _).alloc _
  have b1 : Boxed W0 (s0 + 1) 24 (.int .i64 0) := by
    rw [← hW0, ← hs0]
    have := Boxed.new (w.alloc (.cells #[.pointer (some ⟨h, 0, none⟩)] 28)) 24 (.int .i64 0)
    rw [World.size_alloc] at this
    exact this.alloc _
  have b2 : Boxed W0 (s0 + 2) 34 (.slice none 0 0) := by
    rw [← hW0, ← hs0]
    have := Boxed.new ((w.alloc (.cells #[.pointer (some ⟨h, 0, none⟩)] 28)).alloc (.cells #[.int .i64 0] 24)) 34 (.slice none 0 0)
    rw [World.size_alloc, World.size_alloc] at this
    exact this
  have H0 := H.ext hx0
  have c1 := b0.cell
  have c2 := H0.box.cell (i := 1) rfl
  have hP := parts_any most s W0 H.m1 H.m2 hs
  rw [hpl] at hP
  have hlen := partsL_len most s
  rw [hpl] at hlen
  go_enter_defers Try.func19, Try.ntmps19
  go_wp2_with (go_at_call 12; refine hP.mono ?_; rintro e w1 ⟨⟨vp, rfl, hop⟩, hx1⟩; obtain ⟨gp, cp, rfl, hgp⟩ := hop.tight (by omega))
  have hgl := own_lt hop (g := gp) rfl
  obtain ⟨nb, hnb⟩ : ∃ nb, w1.heap.size = nb := ⟨_, rfl⟩
  have hx2 := hx1.alloc (.cells #[.int .i64 0, .int .i64 0] 38)
  have hbn : BoxN (w1.alloc (.cells #[.int .i64 0, .int .i64 0] 38)) nb 38 #[.int .i64 0, .int .i64 0] := by rw [← hnb]; exact BoxN.new w1 _ _
  have hz2 : (w1.alloc (.cells #[.int .i64 0, .int .i64 0] 38)).heap.size = nb + 1 := by simp [hnb]
  have hz1 := hx1.size
  rw [hnb] at hgl hz1
  rw [hz0] at hgl hz1
  have hws : WrS s0 nb gp cp h A g M size most cap mp pl st w pl.length (.slice none 0 0) (w1.alloc (.cells #[.int .i64 0, .int .i64 0] 38)) := by
    refine ⟨hx2.heap b0, hx2.heap b1, hx2.heap b2, by rw [hst0]; exact hbn, ?_, by rw [← hz0]; exact hop.ext ((Ext.refl w1).alloc _), ⟨lv, by rw [hst0]; exact H0.ext hx2⟩, UpdF.of_ext (hx0.trans hx2) _⟩
    have : doneL st pl.length pl.length = [] := by simp [doneL]
    rw [this]
    exact OwnG.nil _ _ _ _ _
  have HG := Lib.hid (And.intro hgl (And.intro hz1 (And.intro q1 (And.intro q2 (And.intro q3 q4)))))
  have HLN := Lib.hid hlen
  have HHM := Lib.hid (And.intro H.hA (And.intro H.hg (And.intro H.hM (And.intro H.MA H.Mg))))
  have HS0 := Lib.hid hs0
  clear hbn hx2 hx1 hop hgp b0 b1 b2 hP c1 c2 H0 hx0 hz0 hW0 hgl hz1 q1 q2 q3 q4
  generalize w1.alloc (.cells #[.int .i64 0, .int .i64 0] 38) = W2 at *
  have HZ2 := Lib.hid hz2
  clear hz2
  try rw [hnb]
  clear hnb hs0 hlen
  go_wp2
  go_loopw [12] (fun iv wr => ∃ (i : Nat) (v : Value), i ≤ pl.length ∧ iv = .int .i64 ((i : Int) - 1) ∧ WrS s0 nb gp cp h A g M size most cap mp pl st w i v wr ∧ nb < wr.heap.size) (fun iv _ => (intOf iv + 1).toNat)
  case atStart => exact ⟨pl.length, _, Nat.le_refl _, by go_num, hws, by have := HZ2.out; omega⟩
  case round =>
    obtain ⟨i, v, hi, rfl, hS, hsz⟩ := hrel
    cases i with
    | succ i =>
      have HI := Lib.hid hi
      have hv1 : (((i + 1 : Nat) : Int) - 1) = (i : Int) := by omega
      rw [hv1]
      obtain ⟨lv', hpq⟩ := hS.hp
      have hAP := hst i (by omega)
      have hrn := (by
        by_cases h1 : i + 1 = pl.length
        · rw [h1, hst0]; exact (by decide : ((0 : Int) ≤ 0 ∧ (0 : Int) ≤ 1000) ∧ (0 : Int) ≤ 0 ∧ (0 : Int) ≤ 255)
        · exact (hst (i + 1) (by omega)).rng : (0 ≤ (st (i + 1)).2.1 ∧ (st (i + 1)).2.1 ≤ 1000) ∧ 0 ≤ (st (i + 1)).2.2 ∧ (st (i + 1)).2.2 ≤ 255)
      have hrn0 := hAP.rng
      have hAPr := fun lv W hW => hAP.run A g cap lv W hW
      have hDL := doneL_succ st (n := pl.length) (i := i) (by omega)
      obtain ⟨⟨L1, x, y⟩, hs1⟩ : ∃ t, st (i + 1) = t := ⟨_, rfl⟩
      obtain ⟨⟨L0, x', y'⟩, hs2⟩ : ∃ t, st i = t := ⟨_, rfl⟩
      obtain ⟨bh, be, bd, bn, od, op, -, up⟩ := hS
      rw [hs1] at bn hpq hrn hAPr
      rw [hs2] at hrn0 hAPr hDL
      simp only [adV] at bn hrn hrn0 hAPr
      have HS12 := Lib.hid hs2
      have HDL := Lib.hid hDL
      have HDN := Lib.hid (doneL_len st pl.length (i + 1))
      have HHH := Lib.hid HHM.out
      obtain ⟨hgl, hz1, q1, q2, q3, q4⟩ := HG.out
      have hs0 := HS0.out
      rw [hs0] at q1 q2 q3 q4
      obtain ⟨n1, n2, n3, n4, n5⟩ := HHM.out
      have hlen := HLN.out
      obtain ⟨PX, cX, eX, hSX⟩ := op.slG elemS (by omega)
      simp only [Value.slice.injEq] at eX
      obtain ⟨rfl, _, rfl⟩ := eX
      obtain ⟨gp, oX, eX, hcX⟩ := hSX.at_ i (pl.getD i ⟨#[]⟩) (by rw [List.getD_eq_getElem?_getD, List.getElem?_eq_getElem (by omega)]; rfl)
      simp only [Option.some.injEq, Addr.mk.injEq, and_true] at eX
      obtain ⟨rfl, rfl⟩ := eX
      have hpc := hcX 0 _ rfl
      simp only [List.length_cons, List.length_nil, Nat.mul_one, Nat.add_zero, Nat.zero_add] at hpc
      have hpsz : (pl.getD i ⟨#[]⟩).size ≤ 4000 := by
        have := partsL_sizeLe (m := most) s (pl.getD i ⟨#[]⟩) (by rw [hpl, List.getD_eq_getElem?_getD, List.getElem?_eq_getElem (by omega)]; simp)
        omega
      have hF := fun V => (by
        by_cases h0 : i = 0
        · subst h0
          exact framed_zero k s.size x y _ V (by omega) (by omega) hrn.1 (by omega) hpsz
        · exact framed_more k i s.size x y _ V (by omega) (by omega) (by omega) hrn.1 (by omega) hpsz : Calls Try.prog 13 #[.int .i64 k, .int .i64 i, .int .i64 s.size, .agg #[.int .i64 x, .int .i64 y], .string (pl.getD i ⟨#[]⟩)] V fun e w' => e = .returned (.string (frB k s.size i (x, y) (pl.getD i ⟨#[]⟩))) ∧ Ext V w')
      have hC : ∀ V, UpdF (fun z => z = A ∨ z = g) wr V → V.cell? ⟨s0, 0, none⟩ = some (.pointer (some ⟨h, 0, none⟩)) ∧ V.cell? ⟨h, 0, none⟩ = some (.pointer (some ⟨A, 0, none⟩)) ∧ V.cell? ⟨nb, 0, none⟩ = some (.int .i64 x) ∧ V.cell? ⟨nb, 1, none⟩ = some (.int .i64 y) ∧ V.cell? ⟨gp, i, none⟩ = some (.string (pl.getD i ⟨#[]⟩)) := fun V hu =>
        ⟨hu.cell bh.cell (show ¬ (s0 = A ∨ s0 = g) by omega), hu.cell (hpq.box.cell (i := 0) rfl) (show ¬ (h = A ∨ h = g) by omega), hu.cell (bn.cell (i := 0) rfl) (show ¬ (nb = A ∨ nb = g) by omega), hu.cell (bn.cell (i := 1) rfl) (show ¬ (nb = A ∨ nb = g) by omega), hu.cell hpc (show ¬ (gp = A ∨ gp = g) by omega)⟩
      have c2 : (i : Int) < pl.length := by omega
      clear hSX hcX hpc hDL hpsz hAP hst0 hst hi
      generalize frB k s.size i (x, y) (pl.getD i ⟨#[]⟩) = FB at *
      generalize pl.getD i ⟨#[]⟩ = part at *
      have HST := Lib.hid hs1
      clear hs1 hs2
      go_wp2
      have hCd := hC wr.drew (UpdF.of_ext (Ext.refl wr).drew _)
      refine wp_region_noPanic ?_
      refine wp_region_F (fun V => V.cell? ⟨s0, 0, none⟩ = some (.pointer (some ⟨h, 0, none⟩)) ∧ V.cell? ⟨h, 0, none⟩ = some (.pointer (some ⟨A, 0, none⟩)) ∧ V.cell? ⟨nb, 0, none⟩ = some (.int .i64 x) ∧ V.cell? ⟨nb, 1, none⟩ = some (.int .i64 y) ∧ V.cell? ⟨gp, i, none⟩ = some (.string part)) 22 (by kernel_rfl) ?_
      refine wpAnyF_take (i := 0) (v := .pointer (some ⟨h, 0, none⟩)) (fuel := 22) rfl (by kernel_rfl) (by kernel_rfl) (by kernel_rfl) (by kernel_rfl) (by kernel_rfl) rfl (fun _ _ _ h => h) (.inl ⟨rfl, fun W hS => by obtain ⟨s1, s2, s3, s4, s5⟩ := hS; go_simp⟩) hCd ?_
      refine wpAnyF_take (i := 1) (v := .pointer (some ⟨h, 0, none⟩)) (fuel := 21) rfl (by kernel_rfl) (by kernel_rfl) (by kernel_rfl) (by kernel_rfl) (by kernel_rfl) rfl (fun _ _ _ h => h) (.inl ⟨rfl, fun W hS => by obtain ⟨s1, s2, s3, s4, s5⟩ := hS; go_simp⟩) hCd ?_
      refine wpAnyF_take (i := 2) (v := .pointer (some ⟨h, 0, none⟩)) (fuel := 20) rfl (by kernel_rfl) (by kernel_rfl) (by kernel_rfl) (by kernel_rfl) (by kernel_rfl) rfl (fun _ _ _ h => h) (.inl ⟨rfl, fun W hS => by obtain ⟨s1, s2, s3, s4, s5⟩ := hS; go_simp⟩) hCd ?_
      refine wpAnyF_take (i := 3) (v := .pointer (some ⟨h, 0, none⟩)) (fuel := 19) rfl (by kernel_rfl) (by kernel_rfl) (by kernel_rfl) (by kernel_rfl) (by kernel_rfl) rfl (fun _ _ _ h => h) (.inl ⟨rfl, fun W hS => by obtain ⟨s1, s2, s3, s4, s5⟩ := hS; go_simp⟩) hCd ?_
      refine wpAnyF_take (i := 4) (v := .pointer (some ⟨A, 0, none⟩)) (fuel := 18) rfl (by kernel_rfl) (by kernel_rfl) (by kernel_rfl) (by kernel_rfl) (by kernel_rfl) rfl (fun _ _ _ h => h) (.inl ⟨rfl, fun W hS => by obtain ⟨s1, s2, s3, s4, s5⟩ := hS; go_simp⟩) hCd ?_
      refine wpAnyF_take (i := 5) (v := .int .i64 near) (fuel := 17) rfl (by kernel_rfl) (by kernel_rfl) (by kernel_rfl) (by kernel_rfl) (by kernel_rfl) rfl (fun _ _ _ h => h) (.inl ⟨rfl, fun W hS => by obtain ⟨s1, s2, s3, s4, s5⟩ := hS; go_simp⟩) hCd ?_
      refine wpAnyF_take (i := 6) (v := .int .i64 k) (fuel := 16) rfl (by kernel_rfl) (by kernel_rfl) (by kernel_rfl) (by kernel_rfl) (by kernel_rfl) rfl (fun _ _ _ h => h) (.inl ⟨rfl, fun W hS => by obtain ⟨s1, s2, s3, s4, s5⟩ := hS; go_simp⟩) hCd ?_
      refine wpAnyF_take (i := 7) (v := .int .i64 i) (fuel := 15) rfl (by kernel_rfl) (by kernel_rfl) (by kernel_rfl) (by kernel_rfl) (by kernel_rfl) rfl (fun _ _ _ h => h) (.inl ⟨rfl, fun W hS => by obtain ⟨s1, s2, s3, s4, s5⟩ := hS; go_simp⟩) hCd ?_
      refine wpAnyF_take (i := 8) (v := .string s) (fuel := 14) rfl (by kernel_rfl) (by kernel_rfl) (by kernel_rfl) (by kernel_rfl) (by kernel_rfl) rfl (fun _ _ _ h => h) (.inl ⟨rfl, fun W hS => by obtain ⟨s1, s2, s3, s4, s5⟩ := hS; go_simp⟩) hCd ?_
      refine wpAnyF_take (i := 9) (v := .int .i64 s.size) (fuel := 13) rfl (by kernel_rfl) (by kernel_rfl) (by kernel_rfl) (by kernel_rfl) (by kernel_rfl) rfl (fun _ _ _ h => h) (.inl ⟨rfl, fun W hS => by obtain ⟨s1, s2, s3, s4, s5⟩ := hS; go_simp⟩) hCd ?_
      refine wpAnyF_take (i := 10) (v := .agg #[.int .i64 x, .int .i64 y]) (fuel := 12) rfl (by kernel_rfl) (by kernel_rfl) (by kernel_rfl) (by kernel_rfl) (by kernel_rfl) rfl (fun _ _ _ h => h) (.inl ⟨rfl, fun W hS => by obtain ⟨s1, s2, s3, s4, s5⟩ := hS; go_simp⟩) hCd ?_
      refine wpAnyF_take (i := 11) (v := .slice (some ⟨gp, 0, none⟩) pl.length cp) (fuel := 11) rfl (by kernel_rfl) (by kernel_rfl) (by kernel_rfl) (by kernel_rfl) (by kernel_rfl) rfl (fun _ _ _ h => h) (.inl ⟨rfl, fun W hS => by obtain ⟨s1, s2, s3, s4, s5⟩ := hS; go_simp⟩) hCd ?_
      refine wpAnyF_take (i := 12) (v := .int .i64 i) (fuel := 10) rfl (by kernel_rfl) (by kernel_rfl) (by kernel_rfl) (by kernel_rfl) (by kernel_rfl) rfl (fun _ _ _ h => h) (.inl ⟨rfl, fun W hS => by obtain ⟨s1, s2, s3, s4, s5⟩ := hS; go_simp⟩) hCd ?_
      refine wpAnyF_take (i := 13) (v := .pointer (some ⟨gp, i, none⟩)) (fuel := 9) rfl (by kernel_rfl) (by kernel_rfl) (by kernel_rfl) (by kernel_rfl) (by kernel_rfl) rfl (fun _ _ _ h => h) (.inl ⟨rfl, fun W hS => by obtain ⟨s1, s2, s3, s4, s5⟩ := hS; go_simp⟩) hCd ?_
      refine wpAnyF_take (i := 14) (v := .string part) (fuel := 8) rfl (by kernel_rfl) (by kernel_rfl) (by kernel_rfl) (by kernel_rfl) (by kernel_rfl) rfl (fun _ _ _ h => h) (.inl ⟨rfl, fun W hS => by obtain ⟨s1, s2, s3, s4, s5⟩ := hS; go_simp⟩) hCd ?_
      refine wpAnyF_two (i := 15) (j := 20) (fuel := 7) rfl rfl (by kernel_rfl) rfl rfl (fun K' hK' => ?_) (fun K' hK' => ?_)
      · go_simp
        refine (hF _).mono ?_
        rintro e V1 ⟨rfl, hx1⟩
        have hU1 : UpdF (fun z => z = A ∨ z = g) wr V1 := UpdF.of_ext ((Ext.refl wr).drew.trans hx1) _
        have hsq := hpq.sp.ext ((Ext.refl wr).drew.trans hx1)
        have hC1 := hC V1 hU1
        refine hK' _ _ (fun _ => hC1) ?_
        clear hK' K'
        refine wpAnyF_two (i := 16) (j := 20) (fuel := 6) rfl rfl (by kernel_rfl) rfl rfl (fun K' hK' => ?_) (fun K' hK' => ?_)
        · go_simp
          refine (hAPr lv' V1 hsq).mono ?_
          rintro e V2 ⟨rfl, hsp2, hc2⟩
          have hU2 := hU1.trans (UpdF.of_chg hc2)
          have hC2 := hC V2 hU2
          refine hK' _ _ (fun _ => hC2) ?_
          clear hK' K'
          refine wpAnyF_take (i := 17) (v := .tuple #[.agg #[.int .i64 x', .int .i64 y'], .int .i64 0]) (fuel := 5) rfl (by kernel_rfl) (by kernel_rfl) (by kernel_rfl) (by kernel_rfl) (by kernel_rfl) rfl (fun _ _ _ h => h) (.inl ⟨rfl, fun W hS => by obtain ⟨s1, s2, s3, s4, s5⟩ := hS; go_simp⟩) hC2 ?_
          refine wpAnyF_take (i := 18) (v := .agg #[.int .i64 x', .int .i64 y']) (fuel := 4) rfl (by kernel_rfl) (by kernel_rfl) (by kernel_rfl) (by kernel_rfl) (by kernel_rfl) rfl (fun _ _ _ h => h) (.inl ⟨rfl, fun W hS => by obtain ⟨s1, s2, s3, s4, s5⟩ := hS; go_simp⟩) hC2 ?_
          refine wpAnyF_take (i := 19) (v := .int .i64 0) (fuel := 3) rfl (by kernel_rfl) (by kernel_rfl) (by kernel_rfl) (by kernel_rfl) (by kernel_rfl) rfl (fun _ _ _ h => h) (.inl ⟨rfl, fun W hS => by obtain ⟨s1, s2, s3, s4, s5⟩ := hS; go_simp⟩) hC2 ?_
          refine wpAnyF_one (i := 20) (fuel := 2) rfl (by kernel_rfl) rfl fun K' hK' => ?_
          go_simp
          refine hK' _ _ (fun _ => hC _ (hU2.alloc _)) ?_
          clear hK' K'
          obtain ⟨pb, hpbe⟩ : ∃ pb, V2.heap.size = pb := ⟨_, rfl⟩
          have hpb : wr.heap.size ≤ pb := by rw [← hpbe]; exact hU2.size
          have hF9 : BoxN (V2.alloc (.cells #[.int .i64 x', .int .i64 y'] 38)) pb 38 #[.int .i64 x', .int .i64 y'] := by rw [← hpbe]; exact BoxN.new V2 _ _
          have hU9 := hU2.alloc (.cells #[.int .i64 x', .int .i64 y'] 38)
          have hsp9 : ∃ lv', Sp (V2.alloc (.cells #[.int .i64 x', .int .i64 y'] 38)) A g size L0 lv' cap := by
            obtain ⟨lv2, h2⟩ := hsp2
            exact ⟨lv2, h2.ext ((Ext.refl V2).alloc _)⟩
          refine wpAnyF_one (i := 21) (fuel := 1) rfl (by kernel_rfl) rfl fun K' hK' => ?_
          go_simp
          try rw [hpbe]
          generalize V2.alloc (.cells #[.int .i64 x', .int .i64 y'] 38) = V9 at *
          refine hK' _ _ (fun _ => hC V9 hU9) ?_
          clear hK' K' hpbe
          refine wpAnyF_one (i := 22) (fuel := 0) rfl (by kernel_rfl) rfl fun K' hK' => ?_
          go_simp
          refine hK' _ _ (fun h => by simp at h) ?_
          clear hK' K'
          refine wpAnyF_done (by kernel_rfl) ?_ 0
          refine NoPanic.normal ?_
          have bh9 := hU9.heap bh (show ¬ (s0 = A ∨ s0 = g) by omega)
          have be9 := hU9.heap be (show ¬ (s0 + 1 = A ∨ s0 + 1 = g) by omega)
          have bd9 : Boxed V9 (s0 + 2) 34 v := hU9.heap bd (show ¬ (s0 + 2 = A ∨ s0 + 2 = g) by omega)
          have bn9 := bn.upd hU9 (show ¬ (nb = A ∨ nb = g) by omega)
          have od9 := od.upd hU9 (fun b hb => by have := own_lt od hb; show ¬ (b = A ∨ b = g); omega)
          have op9 := op.upd hU9 (fun b hb => by simp only [Value.ownBlock, Option.some.injEq] at hb; subst hb; show ¬ (gp = A ∨ gp = g); omega)
          have hq9 : ∃ lv', Hp V9 h A g M size most cap L0 lv' mp := by
            obtain ⟨lv2, h2⟩ := hsp9
            exact ⟨lv2, hpq.box.upd hU9 (show ¬ (h = A ∨ h = g) by omega), h2, hpq.map.updF hU9 (show ¬ (M = A ∨ M = g) by omega), n1, n2, n3, n4, n5, hpq.m1, hpq.m2⟩
          have hvb : ∀ b, v.ownBlock = some b → nb + 1 ≤ b ∧ b < wr.heap.size := fun b hb => own_lt od hb
          have hz9 := hU9.size
          have hpl9 := hF9.lt
          have HO9 := Lib.hid od9
          have HP9 := Lib.hid (And.intro bh9 (And.intro be9 (And.intro op9 hq9)))
          have HU9 := Lib.hid (And.intro hU9 up)
          have HVB := Lib.hid hvb
          have HN9 := Lib.hid (And.intro (And.intro hz9 hpl9) (And.intro hpb (And.intro hsz (And.intro hgl (And.intro hz1 (And.intro (And.intro q1 q2) (And.intro q3 q4)))))))
          have HN5 := Lib.hid (And.intro n1 (And.intro n2 (And.intro n3 (And.intro n4 n5))))
          have p0 := hF9.cell (i := 0) rfl
          have p1 := hF9.cell (i := 1) rfl
          have dd := bd9.cell
          have hsz9 : s0 + 2 < V9.heap.size := by omega
          clear bh9 be9 od9 op9 hq9 hvb od op bh be bd hsp9 hU9 up hpq hC hC1 hCd hF hAPr q1 q2 q3 q4 n1 n2 n3 n4 n5 hgl hz1 hz9 hpl9 hpb hsz hs0
          go_wp2_with (first
            | (at_builtin; refine wpList_app_U _ elemAd rfl _ _ rfl (base := nb + 1) rfl (HO9.out.ext ((Ext.refl _).alloc _)) (m := [(x', y')]) rfl (SlG.one elemAd.hk _ ?da1 ?da2) ?da3 ?da4 ?da5 ?da6 ?_))
          case da1 => rfl
          all_goals first
            | rfl
            | (intro e; cases e; done)
            | (have := HDN.out; have := HN9.out; simp; omega; done)
            | (have := HDN.out; have := HN9.out; simp only [List.length_singleton]; omega; done)
            | skip
          intro v7 w7 ho7 hg7 hb7 hob7
          have U7 : UpdF (fun z => v.ownBlock = some z) V9 w7 := (UpdF.of_ext ((Ext.refl V9).alloc _) _).trans (UpdF.of_grown hg7)
          obtain ⟨⟨hz9, hpl9⟩, hpb, hsz, hgl, hz1, ⟨q1, q2⟩, q3, q4⟩ := HN9.out
          obtain ⟨bh9, be9, op9, lvq, hq9⟩ := HP9.out
          have hvb := HVB.out
          have nvb : ∀ z, (z < nb + 1 ∨ wr.heap.size ≤ z) → ¬ v.ownBlock = some z := fun z hz e => by have := hvb z e; omega
          have bd7 : Boxed w7 (s0 + 2) 34 v := U7.heap bd9 (nvb _ (by omega))
          have p07 := U7.cell p0 (nvb pb (by omega))
          have p17 := U7.cell p1 (nvb pb (by omega))
          have bn7 := bn9.upd U7 (nvb _ (by omega))
          obtain ⟨g', cap', hv7, hg'⟩ := ho7.tight (by simp)
          obtain ⟨N7, hN7⟩ : ∃ N7, (doneL st pl.length (i + 1) ++ [(x', y')]).length = N7 := ⟨_, rfl⟩
          rw [hN7] at hv7
          subst hv7
          clear hN7
          have hgo := own_lt ho7 (g := g') rfl
          have U10 := (((UpdF.refl (fun z => z = s0 + 2 ∨ z = nb) w7).setCell (p := ⟨s0 + 2, 0, none⟩) (.inl (.inl rfl)) (.slice (some ⟨g', 0, none⟩) N7 cap')).setCell (p := ⟨nb, 0, none⟩) (.inl (.inr rfl)) (.int .i64 x')).setCell (p := ⟨nb, 1, none⟩) (.inl (.inr rfl)) (.int .i64 y')
          have UA := (U7.mono (G := fun z => v.ownBlock = some z ∨ z = s0 + 2 ∨ z = nb) (fun z hz => .inl hz)).trans (U10.mono (fun z hz => .inr hz))
          have hna : ∀ z, z ≠ s0 + 2 → z ≠ nb → (z < nb + 1 ∨ wr.heap.size ≤ z) → ¬ (v.ownBlock = some z ∨ z = s0 + 2 ∨ z = nb) := fun z e1 e2 e3 => by
            rintro (e | e | e)
            · exact nvb z e3 e
            · exact e1 e
            · exact e2 e
          obtain ⟨n1, n2, n3, n4, n5⟩ := HN5.out
          have nn1 : ¬ s0 + 2 = nb := by omega
          have HW10 := Lib.hid (show WrS s0 nb gp cp h A g M size most cap mp pl st w i (.slice (some ⟨g', 0, none⟩) N7 cap') (((w7.setCell ⟨s0 + 2, 0, none⟩ (.slice (some ⟨g', 0, none⟩) N7 cap')).setCell ⟨nb, 0, none⟩ (.int .i64 x')).setCell ⟨nb, 1, none⟩ (.int .i64 y')) ∧ nb < (((w7.setCell ⟨s0 + 2, 0, none⟩ (.slice (some ⟨g', 0, none⟩) N7 cap')).setCell ⟨nb, 0, none⟩ (.int .i64 x')).setCell ⟨nb, 1, none⟩ (.int .i64 y')).heap.size from by
            refine ⟨⟨UA.heap bh9 (hna s0 (by omega) (by omega) (by omega)), UA.heap be9 (hna (s0 + 1) (by omega) (by omega) (by omega)), ?_, ?_, ?_, ?_, ⟨lvq, by rw [HS12.out]; exact hq9.upd UA ⟨hna _ (by omega) (by omega) (by omega), hna _ (by omega) (by omega) (by omega), hna _ (by omega) (by omega) (by omega), hna _ (by omega) (by omega) (by omega)⟩⟩, ?_⟩, by have := UA.size; omega⟩
            · exact (Below.heap_setCell _ ⟨nb, 1, none⟩ _ (s0 + 2) nn1).trans ((Below.heap_setCell _ ⟨nb, 0, none⟩ _ (s0 + 2) nn1).trans (bd7.set _))
            · rw [HS12.out]
              exact ((((bn7.upd ((UpdF.refl (fun z => z = s0 + 2) w7).setCell (p := ⟨s0 + 2, 0, none⟩) (.inl rfl) _) (by omega)).set 0 (.int .i64 x')).set 1 (.int .i64 y')))
            · rw [HDL.out]
              exact ho7.upd U10 (fun b hb => by simp only [Value.ownBlock, Option.some.injEq] at hb; subst hb; show ¬ (g' = s0 + 2 ∨ g' = nb); omega)
            · exact op9.upd UA (fun b hb => by simp only [Value.ownBlock, Option.some.injEq] at hb; subst hb; exact hna _ (by omega) (by omega) (by omega))
            · obtain ⟨u1, u2⟩ := HU9.out
              refine (u2.trans u1).trans_new UA (fun z hz => .inr ?_)
              have hs0 := HS0.out
              rcases hz with e | e | e
              · have := hvb z e; omega
              · omega
              · omega)
          have dd7 := bd7.cell
          have fd7 := bd7.frozen
          have m0 := bn7.cell (i := 0) rfl
          have m1 := bn7.cell (i := 1) rfl
          have mf0 := bn7.frozen 0
          have mf1 := bn7.frozen 1
          have HI2 := Lib.hid HI.out
          have nn2 : ¬ s0 + 2 = pb := by omega
          clear hna nvb hvb UA U10 U7 hq9 op9 be9 bh9 n1 n2 n3 n4 n5 q1 q2 q3 q4 hgl hz1 hgo hg' hz9 hpl9 hpb hsz p0 p1 dd bd7 bn7 bd9 bn9 hb7 hg7 hob7 ho7
          go_wp2
          go_roundw
          case measure => first | (simp [intOf]; done) | (simp [intOf]; omega)
          case rel => exact ⟨i, _, by have := HI2.out; omega, by go_num, HW10.out.1, HW10.out.2⟩
        · obtain ⟨pb, hpbe⟩ : ∃ pb, V1.heap.size = pb := ⟨_, rfl⟩
          have hpb : wr.heap.size ≤ pb := by rw [← hpbe]; exact hU1.size
          have hb1 : BoxN (V1.alloc (.cells #[.int .i64 0, .int .i64 0] 38)) pb 38 #[.int .i64 0, .int .i64 0] := by rw [← hpbe]; exact BoxN.new V1 _ _
          have hU2 := hU1.alloc (.cells #[.int .i64 0, .int .i64 0] 38)
          have hsq2 := hsq.ext ((Ext.refl V1).alloc (.cells #[.int .i64 0, .int .i64 0] 38))
          go_simp
          try rw [hpbe]
          generalize V1.alloc (.cells #[.int .i64 0, .int .i64 0] 38) = V2 at *
          have hC2 := hC V2 hU2
          refine hK' _ _ (fun _ => hC2) ?_
          clear hK' K' hpbe
          refine wpAnyF_one (i := 16) (fuel := 5) rfl (by kernel_rfl) rfl fun K' hK' => ?_
          go_simp
          refine (hAPr lv' V2 hsq2).mono ?_
          rintro e V3 ⟨rfl, hsp3, hc3⟩
          have hU3 := hU2.trans (UpdF.of_chg hc3)
          have hbp := hb1.upd (UpdF.of_chg hc3) (show ¬ (pb = A ∨ pb = g) by omega)
          have hC3 := hC V3 hU3
          refine hK' _ _ (fun _ => hC3) ?_
          clear hK' K'
          refine wpAnyF_take (i := 17) (v := .tuple #[.agg #[.int .i64 x', .int .i64 y'], .int .i64 0]) (fuel := 4) rfl (by kernel_rfl) (by kernel_rfl) (by kernel_rfl) (by kernel_rfl) (by kernel_rfl) rfl (fun _ _ _ h => h) (.inl ⟨rfl, fun W hS => by obtain ⟨s1, s2, s3, s4, s5⟩ := hS; go_simp⟩) hC3 ?_
          refine wpAnyF_take (i := 18) (v := .agg #[.int .i64 x', .int .i64 y']) (fuel := 3) rfl (by kernel_rfl) (by kernel_rfl) (by kernel_rfl) (by kernel_rfl) (by kernel_rfl) rfl (fun _ _ _ h => h) (.inl ⟨rfl, fun W hS => by obtain ⟨s1, s2, s3, s4, s5⟩ := hS; go_simp⟩) hC3 ?_
          refine wpAnyF_take (i := 19) (v := .int .i64 0) (fuel := 2) rfl (by kernel_rfl) (by kernel_rfl) (by kernel_rfl) (by kernel_rfl) (by kernel_rfl) rfl (fun _ _ _ h => h) (.inl ⟨rfl, fun W hS => by obtain ⟨s1, s2, s3, s4, s5⟩ := hS; go_simp⟩) hC3 ?_
          have hF9 := (hbp.set 0 (.int .i64 x')).set 1 (.int .i64 y')
          have hU9 := (hU3.setCell (p := ⟨pb, 0, none⟩) (.inr hpb) (.int .i64 x')).setCell (p := ⟨pb, 1, none⟩) (.inr hpb) (.int .i64 y')
          have f0 := hbp.frozen 0
          have f1 := hbp.frozen 1
          have t0 := hbp.cell (i := 0) rfl
          have t1 := hbp.cell (i := 1) rfl
          have hsp9 : ∃ lv', Sp ((V3.setCell ⟨pb, 0, none⟩ (.int .i64 x')).setCell ⟨pb, 1, none⟩ (.int .i64 y')) A g size L0 lv' cap := by
            obtain ⟨lv2, h2⟩ := hsp3
            exact ⟨lv2, (h2.setFar (by simp; omega) (by simp; omega) _).setFar (by simp; omega) (by simp; omega) _⟩
          refine wpAnyF_one (i := 21) (fuel := 1) rfl (by kernel_rfl) rfl fun K' hK' => ?_
          go_simp
          generalize (V3.setCell ⟨pb, 0, none⟩ (.int .i64 x')).setCell ⟨pb, 1, none⟩ (.int .i64 y') = V9 at *
          refine hK' _ _ (fun _ => hC V9 hU9) ?_
          clear hK' K' f0 f1 t0 t1 hbp
          refine wpAnyF_one (i := 22) (fuel := 0) rfl (by kernel_rfl) rfl fun K' hK' => ?_
          go_simp
          refine hK' _ _ (fun h => by simp at h) ?_
          clear hK' K'
          refine wpAnyF_done (by kernel_rfl) ?_ 0
          refine NoPanic.normal ?_
          have bh9 := hU9.heap bh (show ¬ (s0 = A ∨ s0 = g) by omega)
          have be9 := hU9.heap be (show ¬ (s0 + 1 = A ∨ s0 + 1 = g) by omega)
          have bd9 : Boxed V9 (s0 + 2) 34 v := hU9.heap bd (show ¬ (s0 + 2 = A ∨ s0 + 2 = g) by omega)
          have bn9 := bn.upd hU9 (show ¬ (nb = A ∨ nb = g) by omega)
          have od9 := od.upd hU9 (fun b hb => by have := own_lt od hb; show ¬ (b = A ∨ b = g); omega)
          have op9 := op.upd hU9 (fun b hb => by simp only [Value.ownBlock, Option.some.injEq] at hb; subst hb; show ¬ (gp = A ∨ gp = g); omega)
          have hq9 : ∃ lv', Hp V9 h A g M size most cap L0 lv' mp := by
            obtain ⟨lv2, h2⟩ := hsp9
            exact ⟨lv2, hpq.box.upd hU9 (show ¬ (h = A ∨ h = g) by omega), h2, hpq.map.updF hU9 (show ¬ (M = A ∨ M = g) by omega), n1, n2, n3, n4, n5, hpq.m1, hpq.m2⟩
          have hvb : ∀ b, v.ownBlock = some b → nb + 1 ≤ b ∧ b < wr.heap.size := fun b hb => own_lt od hb
          have hz9 := hU9.size
          have hpl9 := hF9.lt
          have HO9 := Lib.hid od9
          have HP9 := Lib.hid (And.intro bh9 (And.intro be9 (And.intro op9 hq9)))
          have HU9 := Lib.hid (And.intro hU9 up)
          have HVB := Lib.hid hvb
          have HN9 := Lib.hid (And.intro (And.intro hz9 hpl9) (And.intro hpb (And.intro hsz (And.intro hgl (And.intro hz1 (And.intro (And.intro q1 q2) (And.intro q3 q4)))))))
          have HN5 := Lib.hid (And.intro n1 (And.intro n2 (And.intro n3 (And.intro n4 n5))))
          have p0 := hF9.cell (i := 0) rfl
          have p1 := hF9.cell (i := 1) rfl
          have dd := bd9.cell
          have hsz9 : s0 + 2 < V9.heap.size := by omega
          clear bh9 be9 od9 op9 hq9 hvb od op bh be bd hsp9 hU9 up hpq hC hC1 hCd hF hAPr q1 q2 q3 q4 n1 n2 n3 n4 n5 hgl hz1 hz9 hpl9 hpb hsz hs0
          go_wp2_with (first
            | (at_builtin; refine wpList_app_U _ elemAd rfl _ _ rfl (base := nb + 1) rfl (HO9.out.ext ((Ext.refl _).alloc _)) (m := [(x', y')]) rfl (SlG.one elemAd.hk _ ?db1 ?db2) ?db3 ?db4 ?db5 ?db6 ?_))
          case db1 => rfl
          all_goals first
            | rfl
            | (intro e; cases e; done)
            | (have := HDN.out; have := HN9.out; simp; omega; done)
            | (have := HDN.out; have := HN9.out; simp only [List.length_singleton]; omega; done)
            | skip
          intro v7 w7 ho7 hg7 hb7 hob7
          have U7 : UpdF (fun z => v.ownBlock = some z) V9 w7 := (UpdF.of_ext ((Ext.refl V9).alloc _) _).trans (UpdF.of_grown hg7)
          obtain ⟨⟨hz9, hpl9⟩, hpb, hsz, hgl, hz1, ⟨q1, q2⟩, q3, q4⟩ := HN9.out
          obtain ⟨bh9, be9, op9, lvq, hq9⟩ := HP9.out
          have hvb := HVB.out
          have nvb : ∀ z, (z < nb + 1 ∨ wr.heap.size ≤ z) → ¬ v.ownBlock = some z := fun z hz e => by have := hvb z e; omega
          have bd7 : Boxed w7 (s0 + 2) 34 v := U7.heap bd9 (nvb _ (by omega))
          have p07 := U7.cell p0 (nvb pb (by omega))
          have p17 := U7.cell p1 (nvb pb (by omega))
          have bn7 := bn9.upd U7 (nvb _ (by omega))
          obtain ⟨g', cap', hv7, hg'⟩ := ho7.tight (by simp)
          obtain ⟨N7, hN7⟩ : ∃ N7, (doneL st pl.length (i + 1) ++ [(x', y')]).length = N7 := ⟨_, rfl⟩
          rw [hN7] at hv7
          subst hv7
          clear hN7
          have hgo := own_lt ho7 (g := g') rfl
          have U10 := (((UpdF.refl (fun z => z = s0 + 2 ∨ z = nb) w7).setCell (p := ⟨s0 + 2, 0, none⟩) (.inl (.inl rfl)) (.slice (some ⟨g', 0, none⟩) N7 cap')).setCell (p := ⟨nb, 0, none⟩) (.inl (.inr rfl)) (.int .i64 x')).setCell (p := ⟨nb, 1, none⟩) (.inl (.inr rfl)) (.int .i64 y')
          have UA := (U7.mono (G := fun z => v.ownBlock = some z ∨ z = s0 + 2 ∨ z = nb) (fun z hz => .inl hz)).trans (U10.mono (fun z hz => .inr hz))
          have hna : ∀ z, z ≠ s0 + 2 → z ≠ nb → (z < nb + 1 ∨ wr.heap.size ≤ z) → ¬ (v.ownBlock = some z ∨ z = s0 + 2 ∨ z = nb) := fun z e1 e2 e3 => by
            rintro (e | e | e)
            · exact nvb z e3 e
            · exact e1 e
            · exact e2 e
          obtain ⟨n1, n2, n3, n4, n5⟩ := HN5.out
          have nn1 : ¬ s0 + 2 = nb := by omega
          have HW10 := Lib.hid (show WrS s0 nb gp cp h A g M size most cap mp pl st w i (.slice (some ⟨g', 0, none⟩) N7 cap') (((w7.setCell ⟨s0 + 2, 0, none⟩ (.slice (some ⟨g', 0, none⟩) N7 cap')).setCell ⟨nb, 0, none⟩ (.int .i64 x')).setCell ⟨nb, 1, none⟩ (.int .i64 y')) ∧ nb < (((w7.setCell ⟨s0 + 2, 0, none⟩ (.slice (some ⟨g', 0, none⟩) N7 cap')).setCell ⟨nb, 0, none⟩ (.int .i64 x')).setCell ⟨nb, 1, none⟩ (.int .i64 y')).heap.size from by
            refine ⟨⟨UA.heap bh9 (hna s0 (by omega) (by omega) (by omega)), UA.heap be9 (hna (s0 + 1) (by omega) (by omega) (by omega)), ?_, ?_, ?_, ?_, ⟨lvq, by rw [HS12.out]; exact hq9.upd UA ⟨hna _ (by omega) (by omega) (by omega), hna _ (by omega) (by omega) (by omega), hna _ (by omega) (by omega) (by omega), hna _ (by omega) (by omega) (by omega)⟩⟩, ?_⟩, by have := UA.size; omega⟩
            · exact (Below.heap_setCell _ ⟨nb, 1, none⟩ _ (s0 + 2) nn1).trans ((Below.heap_setCell _ ⟨nb, 0, none⟩ _ (s0 + 2) nn1).trans (bd7.set _))
            · rw [HS12.out]
              exact ((((bn7.upd ((UpdF.refl (fun z => z = s0 + 2) w7).setCell (p := ⟨s0 + 2, 0, none⟩) (.inl rfl) _) (by omega)).set 0 (.int .i64 x')).set 1 (.int .i64 y')))
            · rw [HDL.out]
              exact ho7.upd U10 (fun b hb => by simp only [Value.ownBlock, Option.some.injEq] at hb; subst hb; show ¬ (g' = s0 + 2 ∨ g' = nb); omega)
            · exact op9.upd UA (fun b hb => by simp only [Value.ownBlock, Option.some.injEq] at hb; subst hb; exact hna _ (by omega) (by omega) (by omega))
            · obtain ⟨u1, u2⟩ := HU9.out
              refine (u2.trans u1).trans_new UA (fun z hz => .inr ?_)
              have hs0 := HS0.out
              rcases hz with e | e | e
              · have := hvb z e; omega
              · omega
              · omega)
          have dd7 := bd7.cell
          have fd7 := bd7.frozen
          have m0 := bn7.cell (i := 0) rfl
          have m1 := bn7.cell (i := 1) rfl
          have mf0 := bn7.frozen 0
          have mf1 := bn7.frozen 1
          have HI2 := Lib.hid HI.out
          have nn2 : ¬ s0 + 2 = pb := by omega
          clear hna nvb hvb UA U10 U7 hq9 op9 be9 bh9 n1 n2 n3 n4 n5 q1 q2 q3 q4 hgl hz1 hgo hg' hz9 hpl9 hpb hsz p0 p1 dd bd7 bn7 bd9 bn9 hb7 hg7 hob7 ho7
          go_wp2
          go_roundw
          case measure => first | (simp [intOf]; done) | (simp [intOf]; omega)
          case rel => exact ⟨i, _, by have := HI2.out; omega, by go_num, HW10.out.1, HW10.out.2⟩
      · obtain ⟨pb, hpbe⟩ : ∃ pb, wr.heap.size = pb := ⟨_, rfl⟩
        have hpb : wr.heap.size ≤ pb := by omega
        have hx1 := ((Ext.refl wr).alloc (.cells #[.int .i64 0, .int .i64 0] 38)).drew
        have hU1 : UpdF (fun z => z = A ∨ z = g) wr (wr.alloc (.cells #[.int .i64 0, .int .i64 0] 38)).drew := UpdF.of_ext hx1 _
        have hb0 : BoxN (wr.alloc (.cells #[.int .i64 0, .int .i64 0] 38)).drew pb 38 #[.int .i64 0, .int .i64 0] := by rw [← hpbe]; exact BoxN.new wr _ _
        have hsq0 := hpq.sp.ext hx1
        go_simp
        try rw [hpbe]
        generalize (wr.alloc (.cells #[.int .i64 0, .int .i64 0] 38)).drew = V1 at *
        have hC1 := hC V1 hU1
        refine hK' _ _ (fun _ => hC1) ?_
        clear hK' K' hpbe hx1
        refine wpAnyF_one (i := 15) (fuel := 6) rfl (by kernel_rfl) rfl fun K' hK' => ?_
        go_simp
        refine (hF _).mono ?_
        rintro e V2 ⟨rfl, hx2⟩
        have hU2 := hU1.trans (UpdF.of_ext hx2 _)
        have hsq2 := hsq0.ext hx2
        have hb1 := hb0.ext hx2
        have hC2 := hC V2 hU2
        refine hK' _ _ (fun _ => hC2) ?_
        clear hK' K'
        refine wpAnyF_one (i := 16) (fuel := 5) rfl (by kernel_rfl) rfl fun K' hK' => ?_
        go_simp
        refine (hAPr lv' V2 hsq2).mono ?_
        rintro e V3 ⟨rfl, hsp3, hc3⟩
        have hU3 := hU2.trans (UpdF.of_chg hc3)
        have hbp := hb1.upd (UpdF.of_chg hc3) (show ¬ (pb = A ∨ pb = g) by omega)
        have hC3 := hC V3 hU3
        refine hK' _ _ (fun _ => hC3) ?_
        clear hK' K'
        refine wpAnyF_take (i := 17) (v := .tuple #[.agg #[.int .i64 x', .int .i64 y'], .int .i64 0]) (fuel := 4) rfl (by kernel_rfl) (by kernel_rfl) (by kernel_rfl) (by kernel_rfl) (by kernel_rfl) rfl (fun _ _ _ h => h) (.inl ⟨rfl, fun W hS => by obtain ⟨s1, s2, s3, s4, s5⟩ := hS; go_simp⟩) hC3 ?_
        refine wpAnyF_take (i := 18) (v := .agg #[.int .i64 x', .int .i64 y']) (fuel := 3) rfl (by kernel_rfl) (by kernel_rfl) (by kernel_rfl) (by kernel_rfl) (by kernel_rfl) rfl (fun _ _ _ h => h) (.inl ⟨rfl, fun W hS => by obtain ⟨s1, s2, s3, s4, s5⟩ := hS; go_simp⟩) hC3 ?_
        refine wpAnyF_take (i := 19) (v := .int .i64 0) (fuel := 2) rfl (by kernel_rfl) (by kernel_rfl) (by kernel_rfl) (by kernel_rfl) (by kernel_rfl) rfl (fun _ _ _ h => h) (.inl ⟨rfl, fun W hS => by obtain ⟨s1, s2, s3, s4, s5⟩ := hS; go_simp⟩) hC3 ?_
        have hF9 := (hbp.set 0 (.int .i64 x')).set 1 (.int .i64 y')
        have hU9 := (hU3.setCell (p := ⟨pb, 0, none⟩) (.inr hpb) (.int .i64 x')).setCell (p := ⟨pb, 1, none⟩) (.inr hpb) (.int .i64 y')
        have f0 := hbp.frozen 0
        have f1 := hbp.frozen 1
        have t0 := hbp.cell (i := 0) rfl
        have t1 := hbp.cell (i := 1) rfl
        have hsp9 : ∃ lv', Sp ((V3.setCell ⟨pb, 0, none⟩ (.int .i64 x')).setCell ⟨pb, 1, none⟩ (.int .i64 y')) A g size L0 lv' cap := by
          obtain ⟨lv2, h2⟩ := hsp3
          exact ⟨lv2, (h2.setFar (by simp; omega) (by simp; omega) _).setFar (by simp; omega) (by simp; omega) _⟩
        refine wpAnyF_one (i := 21) (fuel := 1) rfl (by kernel_rfl) rfl fun K' hK' => ?_
        go_simp
        generalize (V3.setCell ⟨pb, 0, none⟩ (.int .i64 x')).setCell ⟨pb, 1, none⟩ (.int .i64 y') = V9 at *
        refine hK' _ _ (fun _ => hC V9 hU9) ?_
        clear hK' K' f0 f1 t0 t1 hbp
        refine wpAnyF_one (i := 22) (fuel := 0) rfl (by kernel_rfl) rfl fun K' hK' => ?_
        go_simp
        refine hK' _ _ (fun h => by simp at h) ?_
        clear hK' K'
        refine wpAnyF_done (by kernel_rfl) ?_ 0
        refine NoPanic.normal ?_
        have bh9 := hU9.heap bh (show ¬ (s0 = A ∨ s0 = g) by omega)
        have be9 := hU9.heap be (show ¬ (s0 + 1 = A ∨ s0 + 1 = g) by omega)
        have bd9 : Boxed V9 (s0 + 2) 34 v := hU9.heap bd (show ¬ (s0 + 2 = A ∨ s0 + 2 = g) by omega)
        have bn9 := bn.upd hU9 (show ¬ (nb = A ∨ nb = g) by omega)
        have od9 := od.upd hU9 (fun b hb => by have := own_lt od hb; show ¬ (b = A ∨ b = g); omega)
        have op9 := op.upd hU9 (fun b hb => by simp only [Value.ownBlock, Option.some.injEq] at hb; subst hb; show ¬ (gp = A ∨ gp = g); omega)
        have hq9 : ∃ lv', Hp V9 h A g M size most cap L0 lv' mp := by
          obtain ⟨lv2, h2⟩ := hsp9
          exact ⟨lv2, hpq.box.upd hU9 (show ¬ (h = A ∨ h = g) by omega), h2, hpq.map.updF hU9 (show ¬ (M = A ∨ M = g) by omega), n1, n2, n3, n4, n5, hpq.m1, hpq.m2⟩
        have hvb : ∀ b, v.ownBlock = some b → nb + 1 ≤ b ∧ b < wr.heap.size := fun b hb => own_lt od hb
        have hz9 := hU9.size
        have hpl9 := hF9.lt
        have HO9 := Lib.hid od9
        have HP9 := Lib.hid (And.intro bh9 (And.intro be9 (And.intro op9 hq9)))
        have HU9 := Lib.hid (And.intro hU9 up)
        have HVB := Lib.hid hvb
        have HN9 := Lib.hid (And.intro (And.intro hz9 hpl9) (And.intro hpb (And.intro hsz (And.intro hgl (And.intro hz1 (And.intro (And.intro q1 q2) (And.intro q3 q4)))))))
        have HN5 := Lib.hid (And.intro n1 (And.intro n2 (And.intro n3 (And.intro n4 n5))))
        have p0 := hF9.cell (i := 0) rfl
        have p1 := hF9.cell (i := 1) rfl
        have dd := bd9.cell
        have hsz9 : s0 + 2 < V9.heap.size := by omega
        clear bh9 be9 od9 op9 hq9 hvb od op bh be bd hsp9 hU9 up hpq hC hC1 hCd hF hAPr q1 q2 q3 q4 n1 n2 n3 n4 n5 hgl hz1 hz9 hpl9 hpb hsz hs0
        go_wp2_with (first
          | (at_builtin; refine wpList_app_U _ elemAd rfl _ _ rfl (base := nb + 1) rfl (HO9.out.ext ((Ext.refl _).alloc _)) (m := [(x', y')]) rfl (SlG.one elemAd.hk _ ?dc1 ?dc2) ?dc3 ?dc4 ?dc5 ?dc6 ?_))
        case dc1 => rfl
        all_goals first
          | rfl
          | (intro e; cases e; done)
          | (have := HDN.out; have := HN9.out; simp; omega; done)
          | (have := HDN.out; have := HN9.out; simp only [List.length_singleton]; omega; done)
          | skip
        intro v7 w7 ho7 hg7 hb7 hob7
        have U7 : UpdF (fun z => v.ownBlock = some z) V9 w7 := (UpdF.of_ext ((Ext.refl V9).alloc _) _).trans (UpdF.of_grown hg7)
        obtain ⟨⟨hz9, hpl9⟩, hpb, hsz, hgl, hz1, ⟨q1, q2⟩, q3, q4⟩ := HN9.out
        obtain ⟨bh9, be9, op9, lvq, hq9⟩ := HP9.out
        have hvb := HVB.out
        have nvb : ∀ z, (z < nb + 1 ∨ wr.heap.size ≤ z) → ¬ v.ownBlock = some z := fun z hz e => by have := hvb z e; omega
        have bd7 : Boxed w7 (s0 + 2) 34 v := U7.heap bd9 (nvb _ (by omega))
        have p07 := U7.cell p0 (nvb pb (by omega))
        have p17 := U7.cell p1 (nvb pb (by omega))
        have bn7 := bn9.upd U7 (nvb _ (by omega))
        obtain ⟨g', cap', hv7, hg'⟩ := ho7.tight (by simp)
        obtain ⟨N7, hN7⟩ : ∃ N7, (doneL st pl.length (i + 1) ++ [(x', y')]).length = N7 := ⟨_, rfl⟩
        rw [hN7] at hv7
        subst hv7
        clear hN7
        have hgo := own_lt ho7 (g := g') rfl
        have U10 := (((UpdF.refl (fun z => z = s0 + 2 ∨ z = nb) w7).setCell (p := ⟨s0 + 2, 0, none⟩) (.inl (.inl rfl)) (.slice (some ⟨g', 0, none⟩) N7 cap')).setCell (p := ⟨nb, 0, none⟩) (.inl (.inr rfl)) (.int .i64 x')).setCell (p := ⟨nb, 1, none⟩) (.inl (.inr rfl)) (.int .i64 y')
        have UA := (U7.mono (G := fun z => v.ownBlock = some z ∨ z = s0 + 2 ∨ z = nb) (fun z hz => .inl hz)).trans (U10.mono (fun z hz => .inr hz))
        have hna : ∀ z, z ≠ s0 + 2 → z ≠ nb → (z < nb + 1 ∨ wr.heap.size ≤ z) → ¬ (v.ownBlock = some z ∨ z = s0 + 2 ∨ z = nb) := fun z e1 e2 e3 => by
          rintro (e | e | e)
          · exact nvb z e3 e
          · exact e1 e
          · exact e2 e
        obtain ⟨n1, n2, n3, n4, n5⟩ := HN5.out
        have nn1 : ¬ s0 + 2 = nb := by omega
        have HW10 := Lib.hid (show WrS s0 nb gp cp h A g M size most cap mp pl st w i (.slice (some ⟨g', 0, none⟩) N7 cap') (((w7.setCell ⟨s0 + 2, 0, none⟩ (.slice (some ⟨g', 0, none⟩) N7 cap')).setCell ⟨nb, 0, none⟩ (.int .i64 x')).setCell ⟨nb, 1, none⟩ (.int .i64 y')) ∧ nb < (((w7.setCell ⟨s0 + 2, 0, none⟩ (.slice (some ⟨g', 0, none⟩) N7 cap')).setCell ⟨nb, 0, none⟩ (.int .i64 x')).setCell ⟨nb, 1, none⟩ (.int .i64 y')).heap.size from by
          refine ⟨⟨UA.heap bh9 (hna s0 (by omega) (by omega) (by omega)), UA.heap be9 (hna (s0 + 1) (by omega) (by omega) (by omega)), ?_, ?_, ?_, ?_, ⟨lvq, by rw [HS12.out]; exact hq9.upd UA ⟨hna _ (by omega) (by omega) (by omega), hna _ (by omega) (by omega) (by omega), hna _ (by omega) (by omega) (by omega), hna _ (by omega) (by omega) (by omega)⟩⟩, ?_⟩, by have := UA.size; omega⟩
          · exact (Below.heap_setCell _ ⟨nb, 1, none⟩ _ (s0 + 2) nn1).trans ((Below.heap_setCell _ ⟨nb, 0, none⟩ _ (s0 + 2) nn1).trans (bd7.set _))
          · rw [HS12.out]
            exact ((((bn7.upd ((UpdF.refl (fun z => z = s0 + 2) w7).setCell (p := ⟨s0 + 2, 0, none⟩) (.inl rfl) _) (by omega)).set 0 (.int .i64 x')).set 1 (.int .i64 y')))
          · rw [HDL.out]
            exact ho7.upd U10 (fun b hb => by simp only [Value.ownBlock, Option.some.injEq] at hb; subst hb; show ¬ (g' = s0 + 2 ∨ g' = nb); omega)
          · exact op9.upd UA (fun b hb => by simp only [Value.ownBlock, Option.some.injEq] at hb; subst hb; exact hna _ (by omega) (by omega) (by omega))
          · obtain ⟨u1, u2⟩ := HU9.out
            refine (u2.trans u1).trans_new UA (fun z hz => .inr ?_)
            have hs0 := HS0.out
            rcases hz with e | e | e
            · have := hvb z e; omega
            · omega
            · omega)
        have dd7 := bd7.cell
        have fd7 := bd7.frozen
        have m0 := bn7.cell (i := 0) rfl
        have m1 := bn7.cell (i := 1) rfl
        have mf0 := bn7.frozen 0
        have mf1 := bn7.frozen 1
        have HI2 := Lib.hid HI.out
        have nn2 : ¬ s0 + 2 = pb := by omega
        clear hna nvb hvb UA U10 U7 hq9 op9 be9 bh9 n1 n2 n3 n4 n5 q1 q2 q3 q4 hgl hz1 hgo hg' hz9 hpl9 hpb hsz p0 p1 dd bd7 bn7 bd9 bn9 hb7 hg7 hob7 ho7
        go_wp2
        go_roundw
        case measure => first | (simp [intOf]; done) | (simp [intOf]; omega)
        case rel => exact ⟨i, _, by have := HI2.out; omega, by go_num, HW10.out.1, HW10.out.2⟩
    | zero =>
      have hv1 : (((0 : Nat) : Int) - 1) = -1 := by omega
      rw [hv1]
      obtain ⟨bh, be, bd, bn, od, op, ⟨lv', hpq⟩, up⟩ := hS
      obtain ⟨⟨L0, X, Y⟩, hs2⟩ : ∃ t, st 0 = t := ⟨_, rfl⟩
      rw [hs2] at bn hpq
      have HS2 := Lib.hid hs2
      clear hs2
      obtain ⟨hgl, hz1, q1, q2, q3, q4⟩ := HG.out
      have hs0 := HS0.out
      rw [hs0] at q1 q2 q3 q4
      obtain ⟨n1, n2, n3, n4, n5⟩ := HHM.out
      have hok : OkI k := ⟨by omega, by omega⟩
      obtain ⟨w8, hrun, hm8, hu8⟩ := (hpq.map.ext (Ext.refl wr).drew).store (t := 47) Try.underlying47 hml hok (v := (X, Y))
      simp only [adV] at hrun bn
      have hCd : wr.drew.cell? ⟨s0, 0, none⟩ = some (.pointer (some ⟨h, 0, none⟩)) ∧ wr.drew.cell? ⟨h, 2, none⟩ = some (.map (some M)) ∧ wr.drew.cell? ⟨nb, 0, none⟩ = some (.int .i64 X) ∧ wr.drew.cell? ⟨nb, 1, none⟩ = some (.int .i64 Y) :=
        ⟨bh.cell, hpq.box.cell (i := 2) rfl, bn.cell (i := 0) rfl, bn.cell (i := 1) rfl⟩
      have hu8' := (UpdF.of_ext (Ext.refl wr).drew _).trans (UpdF.of_upd hu8)
      have bh8 : Boxed w8 s0 28 (.pointer (some ⟨h, 0, none⟩)) := hu8'.heap bh (show ¬ s0 = M by omega)
      have be8 : Boxed w8 (s0 + 1) 24 (.int .i64 0) := hu8'.heap be (show ¬ s0 + 1 = M by omega)
      have bn8 := bn.upd hu8' (show ¬ nb = M by omega)
      have bx8 := hpq.box.upd hu8' (show ¬ h = M by omega)
      have sp8 := hpq.sp.same (hu8'.block A hpq.sp.ar.lt (show ¬ A = M by omega)) (hu8'.block g hpq.sp.gl (show ¬ g = M by omega))
      have c8 := be8.cell
      have f8 := be8.frozen
      have H8 : Hp (w8.setCell ⟨s0 + 1, 0, none⟩ (.int .i64 0)) h A g M size most cap L0 lv' (putI mp k (X, Y)) := by
        have hu := (UpdF.refl (fun z => z = s0 + 1) w8).setCell (p := ⟨s0 + 1, 0, none⟩) (.inl rfl) (.int .i64 0)
        exact Hp.upd (w := w8) ⟨bx8, sp8, hm8, n1, n2, n3, n4, n5, hpq.m1, hpq.m2⟩ hu ⟨show ¬ h = s0 + 1 by omega, show ¬ A = s0 + 1 by omega, show ¬ g = s0 + 1 by omega, show ¬ M = s0 + 1 by omega⟩
      have U8 : UpdF (fun x => x = A ∨ x = g ∨ x = M) w (w8.setCell ⟨s0 + 1, 0, none⟩ (.int .i64 0)) :=
        (((up.mono (fun z hz => by rcases hz with e | e; exact .inl e; exact .inr (.inl e))).trans (hu8'.mono (fun z hz => .inr (.inr hz))))).setCell (.inr (by simp; omega)) _
      have be9 : Boxed (w8.setCell ⟨s0 + 1, 0, none⟩ (.int .i64 0)) (s0 + 1) 24 (.int .i64 0) := be8.set _
      have HH8 := Lib.hid (And.intro H8 (And.intro U8 be9))
      clear H8 U8 be9 bh8 be8 bn8 bx8 sp8 hu8' hu8 hm8 bh be bd bn od op up hgl hz1 q1 q2 q3 q4 n1 n2 n3 n4 n5 hpq
      go_wp2
      refine wp_region_noPanic ?_
      refine wp_region_F (fun V => V.cell? ⟨s0, 0, none⟩ = some (.pointer (some ⟨h, 0, none⟩)) ∧ V.cell? ⟨h, 2, none⟩ = some (.map (some M)) ∧ V.cell? ⟨nb, 0, none⟩ = some (.int .i64 X) ∧ V.cell? ⟨nb, 1, none⟩ = some (.int .i64 Y)) 7 (by kernel_rfl) ?_
      refine wpAnyF_take (i := 0) (v := .pointer (some ⟨h, 0, none⟩)) (fuel := 7) rfl (by kernel_rfl) (by kernel_rfl) (by kernel_rfl) (by kernel_rfl) (by kernel_rfl) rfl (fun _ _ _ h => h) (.inl ⟨rfl, fun W hS => by obtain ⟨s1, s2, s3, s4⟩ := hS; go_simp⟩) hCd ?_
      refine wpAnyF_take (i := 1) (v := .pointer (some ⟨h, 0, none⟩)) (fuel := 6) rfl (by kernel_rfl) (by kernel_rfl) (by kernel_rfl) (by kernel_rfl) (by kernel_rfl) rfl (fun _ _ _ h => h) (.inl ⟨rfl, fun W hS => by obtain ⟨s1, s2, s3, s4⟩ := hS; go_simp⟩) hCd ?_
      refine wpAnyF_take (i := 2) (v := .pointer (some ⟨h, 0, none⟩)) (fuel := 5) rfl (by kernel_rfl) (by kernel_rfl) (by kernel_rfl) (by kernel_rfl) (by kernel_rfl) rfl (fun _ _ _ h => h) (.inl ⟨rfl, fun W hS => by obtain ⟨s1, s2, s3, s4⟩ := hS; go_simp⟩) hCd ?_
      refine wpAnyF_take (i := 3) (v := .pointer (some ⟨h, 2, none⟩)) (fuel := 4) rfl (by kernel_rfl) (by kernel_rfl) (by kernel_rfl) (by kernel_rfl) (by kernel_rfl) rfl (fun _ _ _ h => h) (.inl ⟨rfl, fun W hS => by obtain ⟨s1, s2, s3, s4⟩ := hS; go_simp⟩) hCd ?_
      refine wpAnyF_take (i := 4) (v := .map (some M)) (fuel := 3) rfl (by kernel_rfl) (by kernel_rfl) (by kernel_rfl) (by kernel_rfl) (by kernel_rfl) rfl (fun _ _ _ h => h) (.inl ⟨rfl, fun W hS => by obtain ⟨s1, s2, s3, s4⟩ := hS; go_simp⟩) hCd ?_
      refine wpAnyF_take (i := 5) (v := .int .i64 k) (fuel := 2) rfl (by kernel_rfl) (by kernel_rfl) (by kernel_rfl) (by kernel_rfl) (by kernel_rfl) rfl (fun _ _ _ h => h) (.inl ⟨rfl, fun W hS => by obtain ⟨s1, s2, s3, s4⟩ := hS; go_simp⟩) hCd ?_
      refine wpAnyF_take (i := 6) (v := .agg #[.int .i64 X, .int .i64 Y]) (fuel := 1) rfl (by kernel_rfl) (by kernel_rfl) (by kernel_rfl) (by kernel_rfl) (by kernel_rfl) rfl (fun _ _ _ h => h) (.inl ⟨rfl, fun W hS => by obtain ⟨s1, s2, s3, s4⟩ := hS; go_simp⟩) hCd ?_
      refine wpAnyF_one (i := 7) (fuel := 0) rfl (by kernel_rfl) rfl fun K' hK' => ?_
      go_simp
      refine hK' _ _ (fun h => by simp at h) ?_
      clear hK' K' hCd hrun
      refine wpAnyF_done (by kernel_rfl) ?_ 0
      refine NoPanic.normal ?_
      go_wp2
      obtain ⟨H8, U8, be9⟩ := HH8.out
      show Leaves _ _ _ _ _ _ _
      refine leaves_cons (f := 28) (args := #[.pointer (some ⟨s0 + 1, 0, none⟩), .pointer (some ⟨s0 + 1 + 1, 0, none⟩), .pointer (some ⟨s0, 0, none⟩)]) (by simp) (by simp [go_sem]) ?_
      refine (wdone_any (s0 + 1) (s0 + 1 + 1) s0 _ be9).mono ?_
      rintro e u' w' ⟨rfl, rfl, rfl⟩
      have c9 := be9.cell
      simp [Leaves, settle, results, Try.results19, go_sem, c9]
      rw [HS2.out]
      exact ⟨⟨lv', H8⟩, U8⟩
end
end Go.Proofs.Ytcbainmpikcfjaa
