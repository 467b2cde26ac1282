/- Arrays: Find of the program. -/
import Derived.Test.YtiakmcfbkceojaaArL
import Derived.Test.YtiakmcfbkceojaaArR3
namespace Go.Proofs.Ytiakmcfbkceojaa
open Go.RowKit Go.Maps
set_option linter.unusedVariables false
set_option linter.unusedSimpArgs false
set_option maxRecDepth 20000
attribute [local go_sem] Oper.semAt_some

theorem boxes3 (w : World) (t1 t2 t3 : TypeId) (v1 v2 v3 : Value) : ∃ W, ((w.alloc (.cells #[v1] t1)).alloc (.cells #[v2] t2)).alloc (.cells #[v3] t3) = W ∧ Boxed W w.heap.size t1 v1 ∧ Boxed W (w.heap.size + 1) t2 v2 ∧ Boxed W (w.heap.size + 1 + 1) t3 v3 ∧ Ext w W ∧ w.heap.size + 1 + 1 < W.heap.size := by
  refine ⟨_, rfl, ((Boxed.new _ _ _).alloc _).alloc _, ?_, ?_, (((Ext.refl _).alloc _).alloc _).alloc _, by simp only [World.size_alloc]; omega⟩
  · have := Boxed.new (w.alloc (.cells #[v1] t1)) t2 v2
    rw [World.size_alloc] at this
    exact this.alloc _
  · have := Boxed.new ((w.alloc (.cells #[v1] t1)).alloc (.cells #[v2] t2)) t3 v3
    rw [World.size_alloc, World.size_alloc] at this
    exact this
/-- what Find tells of a list -/
def FindR (F : List Int) (k : Int) (r : Int × Int) : Prop := (∃ i : Nat, i < F.length ∧ nthI F i = k ∧ (∀ j, j < i → nthI F j ≠ k) ∧ r = ((i : Int), 0)) ∨ (k ∉ F ∧ r = (0, 8))
def two (r : Int × Int) : Ending := .returned (.tuple #[.int .i64 r.1, .int .i64 r.2])

set_option maxHeartbeats 2000000 in
theorem afind_yes (b k : Int) (P : Option Addr) (cap : Nat) (Q : Nat → Option Addr) (C : Nat → Nat) (LL : List (List Int)) (w : World) (h : SlA w P cap Q C LL) (hok : ArOk b LL) (hk : keyB k = true) (r : Int × Int) (hr : FindR LL.flatten k r) :
    Calls Try.prog 22 #[.int .i64 b, .slice P LL.length cap, .int .i64 k] w fun e w' => e = two r ∧ Ext w w' := by
  have hV := fun W hW => avalid_any b P cap Q C LL W hW hok.in64
  rw [validF_iff.2 hok] at hV
  have hlen := h.len
  obtain ⟨W1, hW1, b1, b2, b3, hx1, hz1⟩ := boxes3 w 3 3 25 (.int .i64 k) (.int .i64 0) (.int .i64 0)
  refine calls_of_wpAt Try.func22 rfl ?_
  simp only [Try.ntmps22, List.size_toArray, List.length_cons, List.length_nil, Nat.reduceAdd, Nat.reduceSub, Array.replicate_succ, Array.replicate_zero, List.push_toArray, List.append_toArray, List.nil_append, List.cons_append]
  refine wpAt_seq_k (fun K hK => ?_)
  go_wp2
  try rw [hW1]
  clear hW1
  have hne := hok.ne
  have hle := hok.le
  clear hok
  refine wpAt_seq_k (fun K hK => ?_)
  go_wp2_with (first
    | (go_at_call 15; refine (hV _ (by exact h.ext hx1)).mono ?_; rintro e w2 ⟨rfl, hx2⟩; have q1 := hx2.cell b1.cell)
    | (go_at_call 39; refine (akey_any _ _).mono ?_; rintro e w3 ⟨rfl, rfl⟩; rw [hk]))
  have HZ : Hid (w.heap.size + 1 + 1 < w2.heap.size) := Lib.hid (by have := hx2.size; omega)
  replace b1 : Boxed w2 _ _ _ := hx2.heap b1
  replace b2 : Boxed w2 _ _ _ := hx2.heap b2
  replace b3 : Boxed w2 _ _ _ := hx2.heap b3
  have hx : Ext w w2 := hx1.trans hx2
  clear hx1 hx2 hz1 q1
  refine wpAt_seq ?_
  refine wpAt_seq_k (fun K hK => ?_)
  go_wp2_with (go_at_call 49; refine (keys_any _ _ _ _).mono ?_; rintro e w3 ⟨rfl, rfl⟩)
  obtain ⟨W2, hW2⟩ : ∃ W2, w2.alloc (.cells #[.slice P LL.length cap] 24) = W2 := ⟨_, rfl⟩
  have hC : Boxed W2 w2.heap.size 24 (.slice P LL.length cap) := by rw [← hW2]; exact Boxed.new _ _ _
  have hxa : Ext w2 W2 := by rw [← hW2]; exact (Ext.refl _).alloc _
  have hz2 : W2.heap.size = w2.heap.size + 1 := by rw [← hW2, World.size_alloc]
  have HC : Hid (w.heap.size + 1 + 1 < w2.heap.size ∧ w2.heap.size < W2.heap.size) := Lib.hid ⟨HZ.out, by omega⟩
  rw [hW2]
  replace b1 : Boxed W2 _ _ _ := hxa.heap b1
  replace b2 : Boxed W2 _ _ _ := hxa.heap b2
  replace b3 : Boxed W2 _ _ _ := hxa.heap b3
  replace hx := hx.trans hxa
  clear hW2 hxa hz2 HZ
  generalize w2.heap.size = cc at *
  refine wpAt_block ?_
  refine wpAt_rangeFunc (hf := Try.func22) (gf := 65) (lb := #[.pointer (some ⟨cc, 0, none⟩)]) rfl (enters_of Try.func65 (by kernel_rfl) rfl)
    (keys_seq cc P cap Q C LL (by omega) (by omega) hne) (fun _ => rfl)
    (fun i W => (Boxed W w.heap.size 3 (.int .i64 k) ∧ Boxed W (w.heap.size + 1) 3 (.int .i64 0) ∧ Boxed W (w.heap.size + 1 + 1) 25 (.int .i64 0) ∧ Boxed W cc 24 (.slice P LL.length cap)) ∧ Ext w W ∧ Hid (∀ j, j < i → nthI LL.flatten j ≠ k))
    (fun i c W => c = .ret ∧ Ext w W ∧ Boxed W (w.heap.size + 1) 3 (.int .i64 (i : Nat)) ∧ Boxed W (w.heap.size + 1 + 1) 25 (.int .i64 0) ∧ Hid (nthI LL.flatten i = k ∧ ∀ j, j < i → nthI LL.flatten j ≠ k))
    (fun _ _ _ => False)
    (fun i A' B' ⟨⟨h1, h2, h3, h4⟩, h5, h6⟩ hx => ⟨⟨hx.heap h1, hx.heap h2, hx.heap h3, hx.heap h4⟩, h5.trans hx, h6⟩)
    (fun i c A' B' ⟨h1, h2, h3, h4, h5⟩ hx => ⟨h1, h2.trans hx, hx.heap h3, hx.heap h4, h5⟩)
    (fun i A' B' ⟨⟨h1, h2, h3, h4⟩, h5, h6⟩ hx => by
      obtain ⟨y1, y2⟩ := HC.out
      exact ⟨⟨hx.heap h1 (by omega), hx.heap h2 (by omega), hx.heap h3 (by omega), hx.heap h4 (by omega)⟩, Upd.ext h5 hx (by omega), h6⟩)
    (fun i c A' B' ⟨h1, h2, h3, h4, h5⟩ hx => by
      obtain ⟨y1, y2⟩ := HC.out
      exact ⟨h1, Upd.ext h2 hx (by omega), hx.heap h3 (by omega), hx.heap h4 (by omega), h5⟩)
    (fun i A' ⟨⟨h1, h2, h3, h4⟩, h5, h6⟩ => ⟨h4.cell, h.ext h5⟩)
    ⟨⟨b1, b2, b3, hC⟩, hx, Lib.hid (fun j hj => by omega)⟩ ?round ?done ?stop (fun _ _ _ _ h _ => h.elim)
  case round =>
    rintro i W ⟨⟨h1, h2, h3, h4⟩, h5, h6⟩ hW hlt
    simp only [atV]
    generalize (locQ LL i).1 = X at *
    generalize (locQ LL i).2 = Y at *
    obtain ⟨Z, hZ⟩ : ∃ Z, nthI LL.flatten i = Z := ⟨_, rfl⟩
    rw [hZ]
    have HZ := Lib.hid hZ
    clear hZ
    have hxa : Ext W (W.alloc (.cells #[.int .i64 i, .int .i64 X, .int .i64 Y, .int .i64 Z] 62)) := (Ext.refl W).alloc _
    have hn5 : (W.alloc (.cells #[.int .i64 i, .int .i64 X, .int .i64 Y, .int .i64 Z] 62)).heap[W.heap.size]? = some (.cells #[.int .i64 i, .int .i64 X, .int .i64 Y, .int .i64 Z] 62 (0, 0)) := World.alloc_heap_new _ _
    replace h1 : Boxed (W.alloc (.cells #[.int .i64 i, .int .i64 X, .int .i64 Y, .int .i64 Z] 62)) _ _ _ := hxa.heap h1
    replace h2 : Boxed (W.alloc (.cells #[.int .i64 i, .int .i64 X, .int .i64 Y, .int .i64 Z] 62)) _ _ _ := hxa.heap h2
    replace h3 : Boxed (W.alloc (.cells #[.int .i64 i, .int .i64 X, .int .i64 Y, .int .i64 Z] 62)) _ _ _ := hxa.heap h3
    replace h4 : Boxed (W.alloc (.cells #[.int .i64 i, .int .i64 X, .int .i64 Y, .int .i64 Z] 62)) _ _ _ := hxa.heap h4
    replace h5 := h5.trans hxa
    gi_wp2
    refine ⟨hxa.block (by omega), hxa.block (by omega), ?_⟩
    intro W3 hu3 hs3
    obtain ⟨y1, y2⟩ := HC.out
    replace hn5 := hu3.heap hn5 (by omega)
    replace h1 : Boxed W3 _ _ _ := hu3.heap h1 (by omega)
    replace h2 : Boxed W3 _ _ _ := hu3.heap h2 (by omega)
    replace h3 : Boxed W3 _ _ _ := hu3.heap h3 (by omega)
    replace h4 : Boxed W3 _ _ _ := hu3.heap h4 (by omega)
    replace h5 := Upd.ext h5 hu3 (by omega)
    have g0 : W3.cell? ⟨W.heap.size, 0, none⟩ = some (.int .i64 i) := by simp [World.cell?, hn5]
    have g3 : W3.cell? ⟨W.heap.size, 3, none⟩ = some (.int .i64 Z) := by simp [World.cell?, hn5]
    have hxx : W3.heap.size = W.heap.size + 1 := by rw [hs3, World.size_alloc]
    have HE : Hid (W2.heap.size + 2 ≤ W.heap.size ∧ W.heap.size < W3.heap.size) := Lib.hid ⟨hW, by omega⟩
    clear hu3 hs3 hxa hW hn5 hxx y1 y2
    generalize W.heap.size = E at *
    have k0 := h1.cell
    by_cases hzk : Z = k
    · have hd : (Z == k) = true := by simp [hzk]
      have Hzk := Lib.hid hzk
      have f2 := h2.frozen
      have f3 := h3.frozen
      have q2 := h2.cell
      have q3 := h3.cell
      clear hzk
      gi_wp2
      obtain ⟨x1, x2⟩ := HE.out
      obtain ⟨y1, y2⟩ := HC.out
      refine ⟨(Below.heap_setCell _ _ _ _ (by simp; omega)).trans (Below.heap_setCell _ _ _ _ (by simp; omega)), (Below.heap_setCell _ _ _ _ (by simp; omega)).trans (Below.heap_setCell _ _ _ _ (by simp; omega)), rfl, (h5.setCell (by simp) _).setCell (by simp only; omega) _, (h2.set _).other (by omega) _, (h3.other (by omega) _).set _, Lib.hid ⟨by rw [HZ.out, Hzk.out], h6.out⟩⟩
    · have hd : (Z == k) = false := by simpa using hzk
      have Hzk := Lib.hid hzk
      clear hzk
      gi_wp2
      exact ⟨rfl, rfl, ⟨h1, h2, h3, h4⟩, h5, Lib.hid (fun j hj => by
        by_cases hji : j = i
        · rw [hji, HZ.out]; exact Hzk.out
        · exact h6.out j (by omega))⟩
  case done =>
    rintro W ⟨⟨h1, h2, h3, h4⟩, hx, hno⟩ hD
    have hr' : r = (0, 8) := by
      rcases hr with ⟨i, e1, e2, e3, e4⟩ | ⟨_, e2⟩
      · exact absurd e2 (hno.out i e1)
      · exact e2
    subst hr'
    refine wpAt_of_wp ?_
    have f3 := h2.frozen
    have f4 := h3.frozen
    have q3 := h2.cell
    have q4 := h3.cell
    obtain ⟨y1, y2⟩ := HC.out
    have fin : ∀ x y : Value, ∃ W', W' = ((W.setCell ⟨w.heap.size + 1, 0, none⟩ x).setCell ⟨w.heap.size + 1 + 1, 0, none⟩ y).putObj W2.heap.size (.deferred none) ∧ W'.cell? ⟨w.heap.size + 1, 0, none⟩ = some x ∧ W'.cell? ⟨w.heap.size + 1 + 1, 0, none⟩ = some y ∧ Ext w W' := fun x y => by
      refine ⟨_, rfl, ?_, ?_, ?_⟩
      · have := Upd.heap (grownBy_putObj' ((W.setCell ⟨w.heap.size + 1, 0, none⟩ x).setCell ⟨w.heap.size + 1 + 1, 0, none⟩ y) W2.heap.size (.deferred none)) (((h2.set x).other (by omega) y)) (by omega)
        exact Boxed.cell this
      · have := Upd.heap (grownBy_putObj' ((W.setCell ⟨w.heap.size + 1, 0, none⟩ x).setCell ⟨w.heap.size + 1 + 1, 0, none⟩ y) W2.heap.size (.deferred none)) (((h3.other (by omega) x).set y)) (by omega)
        exact Boxed.cell this
      · exact Upd.ext ((hx.setCell (by simp) _).setCell (by simp only; omega) _) (grownBy_putObj' _ _ _) (by omega)
    obtain ⟨W', hW', q5, q6, hxW⟩ := fin (.int .i64 0) (.int .i64 8)
    have HW := Lib.hid hW'
    clear fin hW' hr
    go_wp2
    refine ⟨by simp, .inl ⟨_, _, rfl, run_takeDeferred (((Below.heap_setCell _ _ _ _ (by simp; omega)).trans ((Below.heap_setCell _ _ _ _ (by simp; omega)).trans hD))), ?_⟩⟩
    rw [← HW.out]
    exact ⟨.tuple #[.int .i64 0, .int .i64 8], by simp [results, Try.results22, go_sem, q5, q6], rfl, hxW⟩
  case stop =>
    rintro i c W hi ⟨rfl, hx, h3, h4, hy⟩ hD
    obtain ⟨hy, hno⟩ := hy.out
    have hr' : r = ((i : Int), 0) := by
      rcases hr with ⟨j, g1, g2, g3, g4⟩ | ⟨g1, _⟩
      · have : j = i := by
          rcases Nat.lt_trichotomy j i with hlt | heq | hgt
          · exact absurd g2 (hno j hlt)
          · exact heq
          · exact absurd hy (g3 i hgt)
        rw [g4, this]
      · exact absurd (hy ▸ nthI_mem hi) g1
    subst hr'
    clear hr hno hy
    obtain ⟨y1, y2⟩ := HC.out
    have u3 := Boxed.cell (Upd.heap (grownBy_putObj' W W2.heap.size (.deferred none)) h3 (by omega))
    have u4 := Boxed.cell (Upd.heap (grownBy_putObj' W W2.heap.size (.deferred none)) h4 (by omega))
    have hxW : Ext w (W.putObj W2.heap.size (.deferred none)) := Upd.ext hx (grownBy_putObj' _ _ _) (by omega)
    go_wp2
    refine ⟨by simp, .inl ⟨_, _, rfl, run_takeDeferred hD, ?_⟩⟩
    exact ⟨.tuple #[.int .i64 i, .int .i64 0], by simp [results, Try.results22, go_sem, u3, u4], rfl, hxW⟩
end Go.Proofs.Ytiakmcfbkceojaa
