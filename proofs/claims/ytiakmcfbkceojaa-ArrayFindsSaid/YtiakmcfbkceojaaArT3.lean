/- Arrays: Nth of the reference, At of both. -/
import Derived.Test.YtiakmcfbkceojaaArT2
namespace Go.Proofs.Ytiakmcfbkceojaa
open Go.RowKit Go.Maps
set_option linter.unusedVariables false
set_option linter.unusedSimpArgs false
set_option maxRecDepth 20000
attribute [local go_sem] Oper.semAt_some

section
variable (b n : Int) (hn : In64 n) (P : Option Addr) (cap : Nat) (Q : Nat → Option Addr) (C : Nat → Nat) (LL : List (List Int)) (w : World) (h : SlA w P cap Q C LL)
include h hn
theorem rnth_yes (hok : ArOk b LL) : Calls Try.prog 25 #[.int .i64 b, .slice P LL.length cap, .int .i64 n] w fun e w' => e = two (nthF LL.flatten n) ∧ Ext w w' := by
  have hle := hok.le
  have hL : Calls Try.prog 20 #[.int .i64 b, .slice P LL.length cap] w fun e w' => ∃ P' cap', e = .returned (.tuple #[.slice P' LL.flatten.length cap', .int .i64 0]) ∧ SlI w' P' cap' LL.flatten ∧ Ext w w' := (rkeys_yes b P cap Q C LL w h hok).mono (by
    rintro e w' ⟨v, rfl, hown, hx⟩
    obtain ⟨P', cap', rfl, hs⟩ := slI_of_row hown
    exact ⟨P', cap', rfl, hs, hx⟩)
  clear hok
  generalize LL.flatten = F at *
  obtain ⟨hn1, hn2⟩ := hn
  have w0 : IntKind.i64.wrap (-(F.length : Int)) = -(F.length : Int) := IntWalk.i64_in _ ⟨by omega, by omega⟩
  by_cases h0 : n = 0
  · subst h0
    have hr : nthF F 0 = (0, 7) := if_pos rfl
    rw [hr]
    clear hr
    go_enter Try.func25, Try.ntmps25
    go_wp2_with (go_at_call 20; refine hL.mono ?_; rintro e w1 ⟨P', c', rfl, hs, hx1⟩)
    go_ret2
    exact ⟨rfl, hx1⟩
  · have c0 : (n == 0) = false := by simpa using h0
    by_cases h1 : n < -(F.length : Int) ∨ (F.length : Int) < n
    · have hr : nthF F n = (0, 8) := by unfold nthF; rw [if_neg h0, if_pos h1]
      rw [hr]
      clear hr h0
      rcases h1 with h1 | h1
      · have h5 : ¬ 0 < n := by omega
        have h6 : n < 0 := by omega
        have h7 : ¬ -(F.length : Int) ≤ n := by omega
        go_enter Try.func25, Try.ntmps25
        go_wp2_with (go_at_call 20; refine hL.mono ?_; rintro e w1 ⟨P', c', rfl, hs, hx1⟩)
        go_ret2
        exact ⟨rfl, hx1⟩
      · have h5 : 0 < n := by omega
        have h6 : ¬ n < 0 := by omega
        have h7 : ¬ n ≤ (F.length : Int) := by omega
        go_enter Try.func25, Try.ntmps25
        go_wp2_with (go_at_call 20; refine hL.mono ?_; rintro e w1 ⟨P', c', rfl, hs, hx1⟩)
        go_ret2
        exact ⟨rfl, hx1⟩
    · have h2 : ¬ n < -(F.length : Int) := fun h => h1 (.inl h)
      have h3 : ¬ (F.length : Int) < n := fun h => h1 (.inr h)
      by_cases h4 : n < 0
      · obtain ⟨i, hi⟩ : ∃ i : Nat, (F.length : Int) + n = i := ⟨((F.length : Int) + n).toNat, by omega⟩
        have hr : nthF F n = (nthI F i, 0) := by unfold nthF; rw [if_neg h0, if_neg h1, if_pos h4, hi]; rfl
        have w1' : IntKind.i64.wrap ((F.length : Int) + n) = (i : Int) := by rw [hi]; exact IntWalk.i64_in _ ⟨by omega, by omega⟩
        rw [hr]
        have hil : i < F.length := by omega
        have hil' : (i : Int) < F.length := by omega
        have h5 : ¬ 0 < n := by omega
        have h7 : -(F.length : Int) ≤ n := by omega
        clear hr h0 h1 hi
        go_enter Try.func25, Try.ntmps25
        go_wp2_with (go_at_call 20; refine hL.mono ?_; rintro e w1 ⟨P', c', rfl, hs, hx1⟩; obtain ⟨bb, oo, rfl, hc⟩ := hs.at_ i hil)
        go_ret2
        exact ⟨rfl, hx1⟩
      · obtain ⟨i, hi⟩ : ∃ i : Nat, n = (i : Int) + 1 := ⟨(n - 1).toNat, by omega⟩
        have hr : nthF F n = (nthI F i, 0) := by unfold nthF; rw [if_neg h0, if_neg h1, if_neg h4, hi]; simp
        rw [hr]
        have w1' : IntKind.i64.wrap (n - 1) = (i : Int) := by rw [IntWalk.i64_in _ ⟨by omega, by omega⟩]; omega
        have hil : i < F.length := by omega
        have hil' : (i : Int) < F.length := by omega
        have h5 : 0 < n := by omega
        have h7 : n ≤ (F.length : Int) := by omega
        clear hr h0 h1 hi
        go_enter Try.func25, Try.ntmps25
        go_wp2_with (go_at_call 20; refine hL.mono ?_; rintro e w1 ⟨P', c', rfl, hs, hx1⟩; obtain ⟨bb, oo, rfl, hc⟩ := hs.at_ i hil)
        go_ret2
        exact ⟨rfl, hx1⟩
end

/-- what At tells of an array -/
def atF (LL : List (List Int)) (n : Int) : Int × Int × Int :=
  if 0 ≤ n ∧ n < LL.flatten.length then (((locQ LL n.toNat).1 : Int), ((locQ LL n.toNat).2 : Int), 0) else (0, 0, 7)
theorem atF_in {LL : List (List Int)} {i : Nat} (h : i < LL.flatten.length) : atF LL (i : Int) = (((locQ LL i).1 : Int), ((locQ LL i).2 : Int), 0) := by
  unfold atF; rw [if_pos ⟨by omega, by omega⟩]; simp
theorem atF_out {LL : List (List Int)} {n : Int} (h : ¬ (0 ≤ n ∧ n < LL.flatten.length)) : atF LL n = (0, 0, 7) := if_neg h
theorem boxes4 (w : World) (t1 t2 t3 t4 : TypeId) (v1 v2 v3 v4 : Value) : ∃ W, (((w.alloc (.cells #[v1] t1)).alloc (.cells #[v2] t2)).alloc (.cells #[v3] t3)).alloc (.cells #[v4] t4) = W ∧ Boxed W w.heap.size t1 v1 ∧ Boxed W (w.heap.size + 1) t2 v2 ∧ Boxed W (w.heap.size + 1 + 1) t3 v3 ∧ Boxed W (w.heap.size + 1 + 1 + 1) t4 v4 ∧ Ext w W ∧ w.heap.size + 1 + 1 + 1 < W.heap.size := by
  obtain ⟨W, hW, b1, b2, b3, hx, hz⟩ := boxes3 w t1 t2 t3 v1 v2 v3
  have hzz : W.heap.size = w.heap.size + 1 + 1 + 1 := by rw [← hW]; simp only [World.size_alloc]
  refine ⟨_, rfl, ?_⟩
  rw [hW]
  refine ⟨b1.alloc _, b2.alloc _, b3.alloc _, ?_, hx.alloc _, by rw [World.size_alloc]; omega⟩
  have := Boxed.new W t4 v4
  rw [hzz] at this
  exact this

set_option maxHeartbeats 2000000 in
theorem aat_yes (b n : Int) (hn : In64 n) (P : Option Addr) (cap : Nat) (Q : Nat → Option Addr) (C : Nat → Nat) (LL : List (List Int)) (w : World) (h : SlA w P cap Q C LL) (hok : ArOk b LL) :
    Calls Try.prog 26 #[.int .i64 b, .slice P LL.length cap, .int .i64 n] w fun e w' => e = three (atF LL n) ∧ Ext w w' := by
  have hV := fun W hW => avalid_any b P cap Q C LL W hW hok.in64
  rw [validF_iff.2 hok] at hV
  have hlen := h.len
  obtain ⟨W1, hW1, b1, b2, b3, b4, hx1, hz1⟩ := boxes4 w 3 3 3 25 (.int .i64 n) (.int .i64 0) (.int .i64 0) (.int .i64 0)
  refine calls_of_wpAt Try.func26 rfl ?_
  simp only [Try.ntmps26, List.size_toArray, List.length_cons, List.length_nil, Nat.reduceAdd, Nat.reduceSub, Array.replicate_succ, Array.replicate_zero, List.push_toArray, List.append_toArray, List.nil_append, List.cons_append]
  refine wpAt_seq_k (fun K hK => ?_)
  go_wp2
  try rw [hW1]
  clear hW1
  have hne := hok.ne
  have hle := hok.le
  clear hok
  refine wpAt_seq_k (fun K hK => ?_)
  go_wp2_with (first
    | (go_at_call 15; refine (hV _ (by exact h.ext hx1)).mono ?_; rintro e w2 ⟨rfl, hx2⟩))
  have HZ : Hid (w.heap.size + 1 + 1 + 1 < w2.heap.size) := Lib.hid (by have := hx2.size; omega)
  replace b1 : Boxed w2 _ _ _ := hx2.heap b1
  replace b2 : Boxed w2 _ _ _ := hx2.heap b2
  replace b3 : Boxed w2 _ _ _ := hx2.heap b3
  replace b4 : Boxed w2 _ _ _ := hx2.heap b4
  have hx : Ext w w2 := hx1.trans hx2
  clear hx1 hx2 hz1
  refine wpAt_seq ?_
  refine wpAt_seq_k (fun K hK => ?_)
  go_wp2_with (go_at_call 49; refine (keys_any _ _ _ _).mono ?_; rintro e w3 ⟨rfl, rfl⟩)
  obtain ⟨W2, hW2⟩ : ∃ W2, w2.alloc (.cells #[.slice P LL.length cap] 24) = W2 := ⟨_, rfl⟩
  have hC : Boxed W2 w2.heap.size 24 (.slice P LL.length cap) := by rw [← hW2]; exact Boxed.new _ _ _
  have hxa : Ext w2 W2 := by rw [← hW2]; exact (Ext.refl _).alloc _
  have hz2 : W2.heap.size = w2.heap.size + 1 := by rw [← hW2, World.size_alloc]
  have HC : Hid (w.heap.size + 1 + 1 + 1 < w2.heap.size ∧ w2.heap.size < W2.heap.size) := Lib.hid ⟨HZ.out, by omega⟩
  rw [hW2]
  replace b1 : Boxed W2 _ _ _ := hxa.heap b1
  replace b2 : Boxed W2 _ _ _ := hxa.heap b2
  replace b3 : Boxed W2 _ _ _ := hxa.heap b3
  replace b4 : Boxed W2 _ _ _ := hxa.heap b4
  replace hx := hx.trans hxa
  clear hW2 hxa hz2 HZ
  generalize w2.heap.size = cc at *
  refine wpAt_block ?_
  refine wpAt_rangeFunc (hf := Try.func26) (gf := 65) (lb := #[.pointer (some ⟨cc, 0, none⟩)]) rfl (enters_of Try.func65 (by kernel_rfl) rfl)
    (keys_seq cc P cap Q C LL (by omega) (by omega) hne) (fun _ => rfl)
    (fun i W => (Boxed W w.heap.size 3 (.int .i64 n) ∧ Boxed W (w.heap.size + 1) 3 (.int .i64 0) ∧ Boxed W (w.heap.size + 1 + 1) 3 (.int .i64 0) ∧ Boxed W (w.heap.size + 1 + 1 + 1) 25 (.int .i64 0) ∧ Boxed W cc 24 (.slice P LL.length cap)) ∧ Ext w W ∧ Hid (∀ j : Nat, j < i → (j : Int) ≠ n))
    (fun i c W => c = .ret ∧ Ext w W ∧ Boxed W (w.heap.size + 1) 3 (.int .i64 ((locQ LL i).1 : Nat)) ∧ Boxed W (w.heap.size + 1 + 1) 3 (.int .i64 ((locQ LL i).2 : Nat)) ∧ Boxed W (w.heap.size + 1 + 1 + 1) 25 (.int .i64 0) ∧ Hid ((i : Int) = n))
    (fun _ _ _ => False)
    (fun i A' B' ⟨⟨h1, h2, h3, h3', h4⟩, h5, h6⟩ hx => ⟨⟨hx.heap h1, hx.heap h2, hx.heap h3, hx.heap h3', hx.heap h4⟩, h5.trans hx, h6⟩)
    (fun i c A' B' ⟨h1, h2, h3, h3', h4, h5⟩ hx => ⟨h1, h2.trans hx, hx.heap h3, hx.heap h3', hx.heap h4, h5⟩)
    (fun i A' B' ⟨⟨h1, h2, h3, h3', h4⟩, h5, h6⟩ hx => by
      obtain ⟨y1, y2⟩ := HC.out
      exact ⟨⟨hx.heap h1 (by omega), hx.heap h2 (by omega), hx.heap h3 (by omega), hx.heap h3' (by omega), hx.heap h4 (by omega)⟩, Upd.ext h5 hx (by omega), h6⟩)
    (fun i c A' B' ⟨h1, h2, h3, h3', h4, h5⟩ hx => by
      obtain ⟨y1, y2⟩ := HC.out
      exact ⟨h1, Upd.ext h2 hx (by omega), hx.heap h3 (by omega), hx.heap h3' (by omega), hx.heap h4 (by omega), h5⟩)
    (fun i A' ⟨⟨h1, h2, h3, h3', h4⟩, h5, h6⟩ => ⟨h4.cell, h.ext h5⟩)
    ⟨⟨b1, b2, b3, b4, hC⟩, hx, Lib.hid (fun j hj => by omega)⟩ ?round ?done ?stop (fun _ _ _ _ h _ => h.elim)
  case round =>
    rintro i W ⟨⟨h1, h2, h3, h3', h4⟩, h5, h6⟩ hW hlt
    simp only [atV]
    obtain ⟨X, hX⟩ : ∃ X, (locQ LL i).1 = X := ⟨_, rfl⟩
    obtain ⟨Y, hY⟩ : ∃ Y, (locQ LL i).2 = Y := ⟨_, rfl⟩
    rw [hX, hY]
    have HX := Lib.hid hX
    have HY := Lib.hid hY
    clear hX hY
    generalize nthI LL.flatten i = Z at *
    have hxa : Ext W (W.alloc (.cells #[.int .i64 i, .int .i64 X, .int .i64 Y, .int .i64 Z] 62)) := (Ext.refl W).alloc _
    have hn5 : (W.alloc (.cells #[.int .i64 i, .int .i64 X, .int .i64 Y, .int .i64 Z] 62)).heap[W.heap.size]? = some (.cells #[.int .i64 i, .int .i64 X, .int .i64 Y, .int .i64 Z] 62 (0, 0)) := World.alloc_heap_new _ _
    replace h1 : Boxed (W.alloc (.cells #[.int .i64 i, .int .i64 X, .int .i64 Y, .int .i64 Z] 62)) _ _ _ := hxa.heap h1
    replace h2 : Boxed (W.alloc (.cells #[.int .i64 i, .int .i64 X, .int .i64 Y, .int .i64 Z] 62)) _ _ _ := hxa.heap h2
    replace h3 : Boxed (W.alloc (.cells #[.int .i64 i, .int .i64 X, .int .i64 Y, .int .i64 Z] 62)) _ _ _ := hxa.heap h3
    replace h3' : Boxed (W.alloc (.cells #[.int .i64 i, .int .i64 X, .int .i64 Y, .int .i64 Z] 62)) _ _ _ := hxa.heap h3'
    replace h4 : Boxed (W.alloc (.cells #[.int .i64 i, .int .i64 X, .int .i64 Y, .int .i64 Z] 62)) _ _ _ := hxa.heap h4
    replace h5 := h5.trans hxa
    gi_wp2
    refine ⟨hxa.block (by omega), hxa.block (by omega), ?_⟩
    intro W3 hu3 hs3
    obtain ⟨y1, y2⟩ := HC.out
    replace hn5 := hu3.heap hn5 (by omega)
    replace h1 : Boxed W3 _ _ _ := hu3.heap h1 (by omega)
    replace h2 : Boxed W3 _ _ _ := hu3.heap h2 (by omega)
    replace h3 : Boxed W3 _ _ _ := hu3.heap h3 (by omega)
    replace h3' : Boxed W3 _ _ _ := hu3.heap h3' (by omega)
    replace h4 : Boxed W3 _ _ _ := hu3.heap h4 (by omega)
    replace h5 := Upd.ext h5 hu3 (by omega)
    have g0 : W3.cell? ⟨W.heap.size, 0, none⟩ = some (.int .i64 i) := by simp [World.cell?, hn5]
    have g1 : W3.cell? ⟨W.heap.size, 1, none⟩ = some (.int .i64 X) := by simp [World.cell?, hn5]
    have g2 : W3.cell? ⟨W.heap.size, 2, none⟩ = some (.int .i64 Y) := by simp [World.cell?, hn5]
    have hxx : W3.heap.size = W.heap.size + 1 := by rw [hs3, World.size_alloc]
    have HE : Hid (W2.heap.size + 2 ≤ W.heap.size ∧ W.heap.size < W3.heap.size) := Lib.hid ⟨hW, by omega⟩
    clear hu3 hs3 hxa hW hn5 hxx y1 y2
    generalize W.heap.size = E at *
    have k0 := h1.cell
    by_cases hzk : (i : Int) = n
    · have hd : ((i : Int) == n) = true := by simp [hzk]
      have Hzk := Lib.hid hzk
      have f2 := h2.frozen
      have f3 := h3.frozen
      have f4 := h3'.frozen
      have q2 := h2.cell
      have q3 := h3.cell
      have q4 := h3'.cell
      obtain ⟨x1, x2⟩ := HE.out
      obtain ⟨y1, y2⟩ := HC.out
      have z1 : w.heap.size + 1 ≠ E := by omega
      have z2 : w.heap.size + 1 + 1 ≠ E := by omega
      have z3 : w.heap.size + 1 + 1 + 1 ≠ E := by omega
      clear hzk x1 x2 y1 y2
      gi_wp2
      refine wpIn_round_held (fun W => W.cell? ⟨E, 1, none⟩ = some (.int .i64 X) ∧ W.cell? ⟨E, 2, none⟩ = some (.int .i64 Y)) (by kernel_rfl) (by rintro ⟨a, w, h⟩; exact h) (by kernel_rfl) ?_
      refine wpAnyH_take (i := 0) (v := .pointer (some ⟨E, 1, none⟩)) (fuel := 6) rfl (by kernel_rfl) (by kernel_rfl) (by kernel_rfl) (fun _ _ _ h => h) (.inl ⟨rfl, fun W hS => by obtain ⟨e1, e2⟩ := hS; go_simp⟩) ⟨g1, g2⟩ ?_
      refine wpAnyH_take (i := 1) (v := .int .i64 X) (fuel := 5) rfl (by kernel_rfl) (by kernel_rfl) (by kernel_rfl) (fun _ _ _ h => h) (.inl ⟨rfl, fun W hS => by obtain ⟨e1, e2⟩ := hS; go_simp⟩) ⟨g1, g2⟩ ?_
      refine wpAnyH_take (i := 2) (v := .pointer (some ⟨E, 2, none⟩)) (fuel := 4) rfl (by kernel_rfl) (by kernel_rfl) (by kernel_rfl) (fun _ _ _ h => h) (.inl ⟨rfl, fun W hS => by obtain ⟨e1, e2⟩ := hS; go_simp⟩) ⟨g1, g2⟩ ?_
      refine wpAnyH_take (i := 3) (v := .int .i64 Y) (fuel := 3) rfl (by kernel_rfl) (by kernel_rfl) (by kernel_rfl) (fun _ _ _ h => h) (.inl ⟨rfl, fun W hS => by obtain ⟨e1, e2⟩ := hS; go_simp⟩) ⟨g1, g2⟩ ?_
      refine wpAnyH_one (i := 4) (fuel := 2) rfl (by kernel_rfl) rfl fun K' hK => ?_
      go_simp
      refine hK _ _ ⟨by simp [World.cell?_setCell_far, z1, g1], by simp [World.cell?_setCell_far, z1, g2]⟩ ?_
      clear hK K'
      refine wpAnyH_one (i := 5) (fuel := 1) rfl (by kernel_rfl) rfl fun K' hK => ?_
      go_simp
      refine hK _ _ ⟨by simp [World.cell?_setCell_far, z1, z2, g1], by simp [World.cell?_setCell_far, z1, z2, g2]⟩ ?_
      clear hK K'
      refine wpAnyH_one (i := 6) (fuel := 0) rfl (by kernel_rfl) rfl fun K' hK => ?_
      go_simp
      refine hK _ _ ⟨by simp [World.cell?_setCell_far, z1, z2, z3, g1], by simp [World.cell?_setCell_far, z1, z2, z3, g2]⟩ ?_
      clear hK K'
      refine wpAnyH_done (by kernel_rfl) ?_ 0
      gi_wp2
      obtain ⟨x1, x2⟩ := HE.out
      obtain ⟨y1, y2⟩ := HC.out
      refine ⟨?_, ?_, rfl, ?_, ?_, ?_, ?_, Hzk⟩
      · exact (Below.heap_setCell _ _ _ _ (by simp; omega)).trans ((Below.heap_setCell _ _ _ _ (by simp; omega)).trans (Below.heap_setCell _ _ _ _ (by simp; omega)))
      · exact (Below.heap_setCell _ _ _ _ (by simp; omega)).trans ((Below.heap_setCell _ _ _ _ (by simp; omega)).trans (Below.heap_setCell _ _ _ _ (by simp; omega)))
      · exact (((h5.setCell (by simp) _).setCell (by simp only; omega) _).setCell (by simp only; omega) _).drew
      · rw [HX.out]; exact ((h2.set _).other (by omega) _).other (by omega) _
      · rw [HY.out]; exact ((h3.other (by omega) _).set _).other (by omega) _
      · exact ((h3'.other (by omega) _).other (by omega) _).set _
    · have hd : ((i : Int) == n) = false := by simpa using hzk
      have Hzk := Lib.hid hzk
      clear hzk
      gi_wp2
      exact ⟨rfl, rfl, ⟨h1, h2, h3, h3', h4⟩, h5, Lib.hid (fun j hj => by
        by_cases hji : j = i
        · rw [hji]; exact Hzk.out
        · exact h6.out j (by omega))⟩
  case done =>
    rintro W ⟨⟨h1, h2, h3, h3', h4⟩, hx, hno⟩ hD
    have hr' : atF LL n = (0, 0, 7) := atF_out (fun ⟨e1, e2⟩ => hno.out n.toNat (by omega) (by omega))
    rw [hr']
    refine wpAt_of_wp ?_
    have f2 := h2.frozen
    have f3 := h3.frozen
    have f4 := h3'.frozen
    have q2 := h2.cell
    have q3 := h3.cell
    have q4 := h3'.cell
    obtain ⟨y1, y2⟩ := HC.out
    have fin : ∀ x y z : Value, ∃ W', W' = (((W.setCell ⟨w.heap.size + 1, 0, none⟩ x).setCell ⟨w.heap.size + 1 + 1, 0, none⟩ y).setCell ⟨w.heap.size + 1 + 1 + 1, 0, none⟩ z).putObj W2.heap.size (.deferred none) ∧ W'.cell? ⟨w.heap.size + 1, 0, none⟩ = some x ∧ W'.cell? ⟨w.heap.size + 1 + 1, 0, none⟩ = some y ∧ W'.cell? ⟨w.heap.size + 1 + 1 + 1, 0, none⟩ = some z ∧ Ext w W' := fun x y z => by
      refine ⟨_, rfl, ?_, ?_, ?_, ?_⟩
      · exact Boxed.cell (Upd.heap (grownBy_putObj' _ W2.heap.size (.deferred none)) ((((h2.set x).other (by omega) y)).other (by omega) z) (by omega))
      · exact Boxed.cell (Upd.heap (grownBy_putObj' _ W2.heap.size (.deferred none)) ((((h3.other (by omega) x).set y)).other (by omega) z) (by omega))
      · exact Boxed.cell (Upd.heap (grownBy_putObj' _ W2.heap.size (.deferred none)) ((((h3'.other (by omega) x).other (by omega) y)).set z) (by omega))
      · exact Upd.ext (((hx.setCell (by simp) _).setCell (by simp only; omega) _).setCell (by simp only; omega) _) (grownBy_putObj' _ _ _) (by omega)
    obtain ⟨W', hW', q5, q6, q7, hxW⟩ := fin (.int .i64 0) (.int .i64 0) (.int .i64 7)
    have HW := Lib.hid hW'
    clear fin hW' hr'
    go_wp2
    refine ⟨by simp, .inl ⟨_, _, rfl, run_takeDeferred (((Below.heap_setCell _ _ _ _ (by simp; omega)).trans ((Below.heap_setCell _ _ _ _ (by simp; omega)).trans ((Below.heap_setCell _ _ _ _ (by simp; omega)).trans hD)))), ?_⟩⟩
    rw [← HW.out]
    exact ⟨.tuple #[.int .i64 0, .int .i64 0, .int .i64 7], by simp [results, Try.results26, go_sem, q5, q6, q7], rfl, hxW⟩
  case stop =>
    rintro i c W hi ⟨rfl, hx, h3, h3', h4, hy⟩ hD
    have hr' := atF_in hi
    rw [hy.out] at hr'
    rw [hr']
    clear hr' hy
    generalize (locQ LL i).1 = X at *
    generalize (locQ LL i).2 = Y at *
    obtain ⟨y1, y2⟩ := HC.out
    have u3 := Boxed.cell (Upd.heap (grownBy_putObj' W W2.heap.size (.deferred none)) h3 (by omega))
    have u4 := Boxed.cell (Upd.heap (grownBy_putObj' W W2.heap.size (.deferred none)) h3' (by omega))
    have u5 := Boxed.cell (Upd.heap (grownBy_putObj' W W2.heap.size (.deferred none)) h4 (by omega))
    have hxW : Ext w (W.putObj W2.heap.size (.deferred none)) := Upd.ext hx (grownBy_putObj' _ _ _) (by omega)
    go_wp2
    refine ⟨by simp, .inl ⟨_, _, rfl, run_takeDeferred hD, ?_⟩⟩
    exact ⟨.tuple #[.int .i64 X, .int .i64 Y, .int .i64 0], by simp [results, Try.results26, go_sem, u3, u4, u5], rfl, hxW⟩
section
variable (b n : Int) (P : Option Addr) (cap : Nat) (Q : Nat → Option Addr) (C : Nat → Nat) (LL : List (List Int)) (w : World) (h : SlA w P cap Q C LL)
include h
theorem aat_no (hv : ∀ l ∈ LL, ∀ x ∈ l, In64 x) (hok : ¬ ArOk b LL) : Calls Try.prog 26 #[.int .i64 b, .slice P LL.length cap, .int .i64 n] w fun e w' => e = three (0, 0, 1) ∧ Ext w w' := by
  have hV := fun W hW => avalid_any b P cap Q C LL W hW hv
  rw [validF_no hok] at hV
  obtain ⟨W1, hW1, b1, b2, b3, b4, hx1, hz1⟩ := boxes4 w 3 3 3 25 (.int .i64 n) (.int .i64 0) (.int .i64 0) (.int .i64 0)
  have hres : ∀ W, Ext W1 W → ∃ W', ((W.setCell ⟨w.heap.size + 1, 0, none⟩ (.int .i64 0)).setCell ⟨w.heap.size + 1 + 1, 0, none⟩ (.int .i64 0)).setCell ⟨w.heap.size + 1 + 1 + 1, 0, none⟩ (.int .i64 1) = W' ∧ W'.cell? ⟨w.heap.size + 1, 0, none⟩ = some (.int .i64 0) ∧ W'.cell? ⟨w.heap.size + 1 + 1, 0, none⟩ = some (.int .i64 0) ∧ W'.cell? ⟨w.heap.size + 1 + 1 + 1, 0, none⟩ = some (.int .i64 1) ∧ Ext w W' := fun W hW => by
    have c2 : Boxed W _ _ _ := hW.heap b2
    have c3 : Boxed W _ _ _ := hW.heap b3
    have c4 : Boxed W _ _ _ := hW.heap b4
    exact ⟨_, rfl, Boxed.cell (((c2.set _).other (by omega) _).other (by omega) _), Boxed.cell (((c3.other (by omega) _).set _).other (by omega) _), Boxed.cell (((c4.other (by omega) _).other (by omega) _).set _), (((hx1.trans hW).setCell (by simp) _).setCell (by simp only; omega) _).setCell (by simp only; omega) _⟩
  go_enter Try.func26, Try.ntmps26
  go_wp2_with (go_at_call 15; refine (hV _ (by exact h.ext hx1)).mono ?_; rintro e w2 ⟨rfl, hx2⟩; have c2 := hx2.cell b2.cell; have c3 := hx2.cell b3.cell; have c4 := hx2.cell b4.cell; have f2 := hx2.frozen b2.cell b2.frozen; have f3 := hx2.frozen b3.cell b3.frozen; have f4 := hx2.frozen b4.cell b4.frozen; obtain ⟨W', hW', q2, q3, q4, hx'⟩ := hres _ hx2)
  try rw [hW']
  exact bodyPost_ret (v := .tuple #[.int .i64 0, .int .i64 0, .int .i64 1]) (by simp [results, Try.results26, go_sem, q2, q3, q4]) rfl ⟨rfl, hx'⟩
theorem rat_no (hok : ¬ ArOk b LL) : Calls Try.prog 27 #[.int .i64 b, .slice P LL.length cap, .int .i64 n] w fun e w' => e = three (0, 0, 1) ∧ Ext w w' := by
  have hV := rkeys_no b P cap Q C LL w h hok
  go_enter Try.func27, Try.ntmps27
  go_wp2_with (go_at_call 20; refine hV.mono ?_; rintro e w1 ⟨rfl, hx1⟩)
  go_ret3
  exact ⟨rfl, hx1⟩
theorem rat_yes (hok : ArOk b LL) : Calls Try.prog 27 #[.int .i64 b, .slice P LL.length cap, .int .i64 n] w fun e w' => e = three (atF LL n) ∧ Ext w w' := by
  have hle := hok.le
  have hll := len_le_flat LL hok.ne
  have hL : Calls Try.prog 20 #[.int .i64 b, .slice P LL.length cap] w fun e w' => ∃ P' cap', e = .returned (.tuple #[.slice P' LL.flatten.length cap', .int .i64 0]) ∧ Ext w w' := (rkeys_yes b P cap Q C LL w h hok).mono (by
    rintro e w' ⟨v, rfl, hown, hx⟩
    obtain ⟨P', cap', rfl, hs⟩ := slI_of_row hown
    exact ⟨P', cap', rfl, hx⟩)
  by_cases hy : 0 ≤ n ∧ n < LL.flatten.length
  · obtain ⟨i, rfl⟩ : ∃ i : Nat, n = i := ⟨n.toNat, by omega⟩
    have hi : i < LL.flatten.length := by omega
    have hS := spotF_spot (LL := LL) (index := i) (fun e => by subst e; simp at hi) (by omega)
    rw [spotF_in hi] at hS
    have hR := fun W hW => rspot_any P cap Q C LL i W hW (by omega) (by omega) (by omega)
    rw [spotQ_spot hS] at hR
    simp only at hR
    rw [atF_in hi]
    obtain ⟨_, h2, _⟩ := hS
    have h2 : lenT LL (locQ LL i).1 + (locQ LL i).2 = i := h2
    have w1' : IntKind.i64.wrap ((i : Int) - (lenT LL (locQ LL i).1 : Nat)) = ((locQ LL i).2 : Nat) := by rw [IntWalk.i64_in _ ⟨by omega, by omega⟩]; omega
    have hi' : ¬ ((LL.flatten.length : Int) ≤ i) := by omega
    clear h2 hok
    generalize (locQ LL i).1 = X at *
    generalize (locQ LL i).2 = Y at *
    generalize lenT LL X = Z at *
    generalize LL.flatten.length = n at *
    go_enter Try.func27, Try.ntmps27
    go_wp2_with (first
      | (go_at_call 20; refine hL.mono ?_; rintro e w1 ⟨P', c', rfl, hx1⟩)
      | (go_at_call 50; refine (hR _ (by exact h.ext hx1)).mono ?_; rintro e w2 ⟨rfl, rfl⟩))
    go_ret3
    exact ⟨rfl, hx1⟩
  · rw [atF_out hy]
    by_cases h0 : n < 0
    · clear hy
      generalize LL.flatten.length = m at *
      go_enter Try.func27, Try.ntmps27
      go_wp2_with (first
        | (go_at_call 20; refine hL.mono ?_; rintro e w1 ⟨P', c', rfl, hx1⟩))
      go_ret3
      exact ⟨rfl, hx1⟩
    · have h1 : (LL.flatten.length : Int) ≤ n := by omega
      clear hy
      generalize LL.flatten.length = m at *
      go_enter Try.func27, Try.ntmps27
      go_wp2_with (first
        | (go_at_call 20; refine hL.mono ?_; rintro e w1 ⟨P', c', rfl, hx1⟩))
      go_ret3
      exact ⟨rfl, hx1⟩
end
end Go.Proofs.Ytiakmcfbkceojaa
