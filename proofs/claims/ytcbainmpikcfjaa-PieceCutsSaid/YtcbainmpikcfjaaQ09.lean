/- SpC; With; RefP; ChgA; ChgB (merged by group.py) -/
import Derived.Test.YtcbainmpikcfjaaQ08
namespace Go.Proofs.Ytcbainmpikcfjaa
section
open Go.RowKit
set_option linter.unusedVariables false
set_option maxRecDepth 20000
set_option maxRecDepth 20000
attribute [local go_sem] Oper.semAt_some

section
variable (A g size cap : Nat) (l : List ByteArray) (lv : List UInt8) (near b : Int) (w : World) (h : Sp w A g size l lv cap)
include h
theorem find_range (hr : ¬ (0 ≤ near ∧ near < l.length)) :
    Calls Try.prog 40 #[.pointer (some ⟨A, 0, none⟩), .int .i64 near, .int .i64 b] w fun e w' => e = .returned (.tuple #[.int .i64 0, .int .i64 7]) ∧ Ext w w' := by
  have hle := h.le
  have hA := fun W hW => asked_is A lv size (some ⟨g, 0, none⟩) l.length cap near W hW (by omega)
  rw [if_neg hr] at hA
  go_enter Try.func40, Try.ntmps40
  go_wp2_with (go_at_call 42; refine (hA _ (by exact (h.ext ((((((Ext.refl w).alloc _).alloc _).alloc _).alloc _))).ar)).mono ?_; rintro e w1 ⟨rfl, rfl⟩)
  exact bodyPost_ret (v := .tuple #[.int .i64 0, .int .i64 7]) (by simp [results, Try.results40, go_sem]) rfl ⟨rfl, (((((Ext.refl w).alloc _).alloc _).alloc _).alloc _)⟩
theorem find_small (hr : 0 ≤ near ∧ near < l.length) (hb : b < 1) :
    Calls Try.prog 40 #[.pointer (some ⟨A, 0, none⟩), .int .i64 near, .int .i64 b] w fun e w' => e = .returned (.tuple #[.int .i64 0, .int .i64 7]) ∧ Ext w w' := by
  have hle := h.le
  have hA := fun W hW => asked_is A lv size (some ⟨g, 0, none⟩) l.length cap near W hW (by omega)
  rw [if_pos hr] at hA
  go_enter Try.func40, Try.ntmps40
  go_wp2_with (go_at_call 42; refine (hA _ (by exact (h.ext ((((((Ext.refl w).alloc _).alloc _).alloc _).alloc _))).ar)).mono ?_; rintro e w1 ⟨rfl, rfl⟩)
  exact bodyPost_ret (v := .tuple #[.int .i64 0, .int .i64 7]) (by simp [results, Try.results40, go_sem]) rfl ⟨rfl, (((((Ext.refl w).alloc _).alloc _).alloc _).alloc _)⟩
theorem find_full (hr : 0 ≤ near ∧ near < l.length) (hb : 1 ≤ b) (hb2 : (size : Int) < b) :
    Calls Try.prog 40 #[.pointer (some ⟨A, 0, none⟩), .int .i64 near, .int .i64 b] w fun e w' => e = .returned (.tuple #[.int .i64 0, .int .i64 13]) ∧ Ext w w' := by
  have hle := h.le
  have hA := fun W hW => asked_is A lv size (some ⟨g, 0, none⟩) l.length cap near W hW (by omega)
  rw [if_pos hr] at hA
  have hx4 := ((((Ext.refl w).alloc (.cells #[.pointer (some ⟨A, 0, none⟩)] 44)).alloc (.cells #[.int .i64 b] 3)).alloc (.cells #[.int .i64 0] 3)).alloc (.cells #[.int .i64 0] 24)
  have g4 := (h.ext hx4).ar.sizeC
  go_enter Try.func40, Try.ntmps40
  go_wp2_with (go_at_call 42; refine (hA _ (by exact (h.ext ((((((Ext.refl w).alloc _).alloc _).alloc _).alloc _))).ar)).mono ?_; rintro e w1 ⟨rfl, rfl⟩)
  go_quiet (fail)
  go_wp2
  exact bodyPost_ret (v := .tuple #[.int .i64 0, .int .i64 13]) (by simp [results, Try.results40, go_sem]) rfl ⟨rfl, ((hx4.drewN _).setCell (by simp only; omega) _).setCell (by simp only; omega) _⟩
end

set_option maxHeartbeats 2000000 in
theorem find_main (A g size cap : Nat) (l : List ByteArray) (lv : List UInt8) (near : Nat) (b : Int) (w : World) (h : Sp w A g size l lv cap) (hr : near < l.length) (hb : 1 ≤ b) (hb2 : b ≤ size) (r : Int × Int) (hf : FindR l near b r) :
    Calls Try.prog 40 #[.pointer (some ⟨A, 0, none⟩), .int .i64 near, .int .i64 b] w fun e w' => e = .returned (.tuple #[.int .i64 r.1, .int .i64 r.2]) ∧ Ext w w' := by
  obtain ⟨z1, z2⟩ := h.sizes
  have hle := h.le
  have hA := fun W hW => asked_is A lv size (some ⟨g, 0, none⟩) l.length cap near W hW (by omega)
  rw [if_pos ⟨by omega, by omega⟩] at hA
  have hAl := h.ar.lt
  refine calls_of_wpAt Try.func40 rfl ?_
  simp only [Try.ntmps40, List.size_toArray, List.length_cons, List.length_nil, Nat.reduceAdd, Nat.reduceSub, Array.replicate_succ, Array.replicate_zero, List.push_toArray, List.append_toArray, List.nil_append, List.cons_append]
  obtain ⟨W1, hW1⟩ : ∃ W1, ((((w.alloc (.cells #[.pointer (some ⟨A, 0, none⟩)] 44)).alloc (.cells #[.int .i64 b] 3)).alloc (.cells #[.int .i64 0] 3)).alloc (.cells #[.int .i64 0] 24)) = W1 := ⟨_, rfl⟩
  have hb1 : Boxed W1 w.heap.size 44 (.pointer (some ⟨A, 0, none⟩)) := by
    rw [← hW1]; exact (((Boxed.new _ _ _).alloc _).alloc _).alloc _
  have hb2' : Boxed W1 (w.heap.size + 1) 3 (.int .i64 b) := by
    rw [← hW1]
    have := Boxed.new (w.alloc (.cells #[.pointer (some ⟨A, 0, none⟩)] 44)) 3 (.int .i64 b)
    rw [World.size_alloc] at this
    exact (this.alloc _).alloc _
  have hb3 : Boxed W1 (w.heap.size + 2) 3 (.int .i64 0) := by
    rw [← hW1]
    have := Boxed.new ((w.alloc (.cells #[.pointer (some ⟨A, 0, none⟩)] 44)).alloc (.cells #[.int .i64 b] 3)) 3 (.int .i64 0)
    rw [World.size_alloc, World.size_alloc] at this
    exact this.alloc _
  have hb4 : Boxed W1 (w.heap.size + 3) 24 (.int .i64 0) := by
    rw [← hW1]
    have := Boxed.new (((w.alloc (.cells #[.pointer (some ⟨A, 0, none⟩)] 44)).alloc (.cells #[.int .i64 b] 3)).alloc (.cells #[.int .i64 0] 3)) 24 (.int .i64 0)
    rw [World.size_alloc, World.size_alloc, World.size_alloc] at this
    exact this
  have hsz : W1.heap.size = w.heap.size + 4 := by rw [← hW1]; simp [World.size_alloc]
  have hx0 : Ext w W1 := by rw [← hW1]; exact ((((Ext.refl w).alloc _).alloc _).alloc _).alloc _
  refine wpAt_seq_k (fun K hK => ?_)
  go_wp2
  simp only [Nat.add_assoc, Nat.reduceAdd]
  have g4 := (h.ext hx0).ar.sizeC
  have c1 := hb1.cell
  have c2 := hb2'.cell
  have n1 : ¬ b < 1 := by omega
  have n2 : ¬ (size : Int) < b := by omega
  clear hW1
  refine wpAt_seq_k (fun K hK => ?_)
  go_wp2_with (go_at_call 42; refine (hA _ (by exact (h.ext hx0).ar)).mono ?_; rintro e w1 ⟨rfl, rfl⟩)
  refine wpAt_seq_k (fun K hK => ?_)
  go_wp2
  refine wpAt_seq_k (fun K hK => ?_)
  go_wp2
  go_quiet (fail)
  go_wp2
  have d1 : Boxed (W1.drewN nq) w.heap.size 44 (.pointer (some ⟨A, 0, none⟩)) := hb1
  have d2 : Boxed (W1.drewN nq) (w.heap.size + 1) 3 (.int .i64 b) := hb2'
  have d3 : Boxed (W1.drewN nq) (w.heap.size + 2) 3 (.int .i64 0) := hb3
  have d4 : Boxed (W1.drewN nq) (w.heap.size + 3) 24 (.int .i64 0) := hb4
  have dx : Ext w (W1.drewN nq) := hx0.drewN nq
  have dz : (W1.drewN nq).heap.size = w.heap.size + 4 := hsz
  clear hb1 hb2' hb3 hb4 hx0 hsz g4 c1 c2
  generalize W1.drewN nq = W4 at *
  have c1 := d1.cell
  refine wpAt_seq ?_
  refine wpAt_seq_k (fun K hK => ?_)
  go_wp2_with (go_at_call 54; refine (near_any A near _).mono ?_; rintro e w5 ⟨rfl, e1, e2, ex, ez⟩)
  rw [dz] at e1 e2 ez
  replace d1 : Boxed w5 _ _ _ := ex.heap d1
  replace d2 : Boxed w5 _ _ _ := ex.heap d2
  replace d3 : Boxed w5 _ _ _ := ex.heap d3
  replace d4 : Boxed w5 _ _ _ := ex.heap d4
  replace dx := dx.trans ex
  clear ex c1
  refine wpAt_block ?_
  refine wpAt_rangeFunc (hf := Try.func40) (gf := 68) (lb := #[.pointer (some ⟨w.heap.size + 4, 0, none⟩), .pointer (some ⟨w.heap.size + 4 + 1, 0, none⟩)]) rfl (enters_of Try.func68 (by kernel_rfl) rfl)
    (near_seq A (w.heap.size + 4) (w.heap.size + 4 + 1) near l.length cap (some ⟨g, 0, none⟩) hle hr) (fun _ => rfl)
    (fun i W => (Boxed W w.heap.size 44 (.pointer (some ⟨A, 0, none⟩)) ∧ Boxed W (w.heap.size + 1) 3 (.int .i64 b) ∧ Boxed W (w.heap.size + 2) 3 (.int .i64 0) ∧ Boxed W (w.heap.size + 3) 24 (.int .i64 0) ∧
      Boxed W (w.heap.size + 4) 44 (.pointer (some ⟨A, 0, none⟩)) ∧ Boxed W (w.heap.size + 4 + 1) 3 (.int .i64 near)) ∧ Ext w W ∧ ∀ j, j < i → holdsB (nthB l ((near + j) % l.length)) b = false)
    (fun i c W => c = .ret ∧ Ext w W ∧ Boxed W (w.heap.size + 2) 3 (.int .i64 (((near + i) % l.length : Nat) : Int)) ∧ Boxed W (w.heap.size + 3) 24 (.int .i64 0) ∧ holdsB (nthB l ((near + i) % l.length)) b = true ∧ ∀ j, j < i → holdsB (nthB l ((near + j) % l.length)) b = false)
    (fun _ _ _ => False)
    (fun i A B ⟨⟨h1, h2, h3, h4, h5, h6⟩, h7, h8⟩ hx => ⟨⟨hx.heap h1, hx.heap h2, hx.heap h3, hx.heap h4, hx.heap h5, hx.heap h6⟩, h7.trans hx, h8⟩)
    (fun i c A B ⟨h1, h2, h3, h4, h5⟩ hx => ⟨h1, h2.trans hx, hx.heap h3, hx.heap h4, h5⟩)
    (fun i A B ⟨⟨h1, h2, h3, h4, h5, h6⟩, h7, h8⟩ hx => ⟨⟨hx.heap h1 (by omega), hx.heap h2 (by omega), hx.heap h3 (by omega), hx.heap h4 (by omega), hx.heap h5 (by omega), hx.heap h6 (by omega)⟩, Upd.ext h7 hx (by omega), h8⟩)
    (fun i c A B ⟨h1, h2, h3, h4, h5⟩ hx => ⟨h1, Upd.ext h2 hx (by omega), hx.heap h3 (by omega), hx.heap h4 (by omega), h5⟩)
    (fun i A' ⟨⟨h1, h2, h3, h4, h5, h6⟩, h7, h8⟩ => ⟨h5.cell, h6.cell, (h.ext h7).ar.pagesC⟩)
    ⟨⟨d1, d2, d3, d4, e1, e2⟩, dx, fun j hj => by omega⟩ ?round ?done ?stop (fun _ _ _ _ h _ => h.elim)
  case round =>
    rintro i W ⟨⟨h1, h2, h3, h4, h5, h6⟩, hx, hno⟩ hW hi
    have hq : (near + i) % l.length < l.length := Nat.mod_lt _ (by omega)
    have hlev := (h.ext hx).level _ hq
    obtain ⟨hv, hz⟩ := h.good _ hq
    obtain ⟨q, hqe⟩ : ∃ q, (near + i) % l.length = q := ⟨_, rfl⟩
    rw [hqe] at hq hlev hv hz
    simp only [hqe]
    gi_wp2
    refine ⟨trivial, trivial, ?_⟩
    intro W2 hu2 hs2
    replace h1 : Boxed W2 _ _ _ := hu2.heap h1 (by omega)
    replace h2 : Boxed W2 _ _ _ := hu2.heap h2 (by omega)
    replace h3 : Boxed W2 _ _ _ := hu2.heap h3 (by omega)
    replace h4 : Boxed W2 _ _ _ := hu2.heap h4 (by omega)
    replace h5 : Boxed W2 _ _ _ := hu2.heap h5 (by omega)
    replace h6 : Boxed W2 _ _ _ := hu2.heap h6 (by omega)
    replace hx := Upd.ext hx hu2 (by omega)
    have hsz2 : w5.heap.size + 2 ≤ W2.heap.size := by omega
    clear hu2 hs2 hW
    have c1 := h1.cell
    have c2 := h2.cell
    have c3 := (h.ext hx).ar.sizeC
    have c4 := (h.ext hx).ar.pagesC
    have hmay : ∀ (n : Nat), Calls Try.prog 55 #[.pointer (some ⟨A, 0, none⟩), .int .i64 q, .int .i64 b, .int .i64 size] (W2.drewN n) fun e w'' => e = .returned (.bool (decide (b * 8 / (size : Int) ≤ (nthL lv q).toNat))) ∧ ∃ m, w'' = W2.drewN m :=
      fun n => quiet_n (may_is A lv size _ q b (W2.drewN n) ⟨(h.ext hx).ar.heap, (h.ext hx).ar.len⟩ (by omega) (by omega) (by omega) ⟨z1, z2⟩)
    rw [hlev] at hmay
    have hfit := fun W => fits_any (nthB l q) b W hv hb (by omega)
    have hpq : ∀ W, Ext w W → W.cell? ⟨g, q, none⟩ = some (.string (nthB l q)) := fun W hW => by
      obtain ⟨b', off, e, hc⟩ := (h.ext hW).sls.at_ q hq
      simp only [Option.some.injEq, Addr.mk.injEq, and_true] at e
      obtain ⟨rfl, rfl⟩ := e
      simpa using hc
    have hsame : ∀ (W : World) (j : Nat), Ext W2 W → j = w5.heap.size ∨ j = w5.heap.size + 1 → W.heap[j]? = W2.heap[j]? := fun W j hW hj => hW.block (by omega)
    have hqc : (q : Int) < l.length := by omega
    by_cases hm : b * 8 / (size : Int) ≤ roomP (nthB l q) * 8 / (size : Int)
    · rw [decide_eq_true hm] at hmay
      gi_wp2
      refine wpIn_round_quiet (by kernel_rfl) (by kernel_rfl) (by kernel_rfl) ?_
      repeat (go_big_quiet_step ((go_at_call 55; exact hmay _)))
      refine wpQuiet_nil ?_
      intro _ hw'
      obtain ⟨nq, rfl⟩ := hw'
      gi_wp2
      have k1 := hpq _ (hx.drewN nq)
      have k2 : (W2.drewN nq).cell? ⟨w.heap.size, 0, none⟩ = _ := c1
      have k3 : (W2.drewN nq).cell? ⟨w.heap.size + 1, 0, none⟩ = _ := c2
      have k4 : (W2.drewN nq).cell? ⟨A, 201, none⟩ = _ := c4
      have hx7 := hx.drewN nq
      have hs7 : ∀ (W : World) (j : Nat), Ext (W2.drewN nq) W → j = w5.heap.size ∨ j = w5.heap.size + 1 → W.heap[j]? = W2.heap[j]? := fun W j hW hj => hsame W j (((Ext.refl W2).drewN nq).trans hW) hj
      have hsB : Boxed (W2.drewN nq) w.heap.size 44 (.pointer (some ⟨A, 0, none⟩)) ∧ Boxed (W2.drewN nq) (w.heap.size + 1) 3 (.int .i64 b) ∧ Boxed (W2.drewN nq) (w.heap.size + 2) 3 (.int .i64 0) ∧ Boxed (W2.drewN nq) (w.heap.size + 3) 24 (.int .i64 0) ∧
        Boxed (W2.drewN nq) (w.heap.size + 4) 44 (.pointer (some ⟨A, 0, none⟩)) ∧ Boxed (W2.drewN nq) (w.heap.size + 4 + 1) 3 (.int .i64 near) := ⟨h1, h2, h3, h4, h5, h6⟩
      generalize W2.drewN nq = W7 at *
      have hSx : ∀ W, Ext W7 W → W.cell? ⟨w.heap.size, 0, none⟩ = some (.pointer (some ⟨A, 0, none⟩)) ∧ W.cell? ⟨w.heap.size + 1, 0, none⟩ = some (.int .i64 b) ∧ W.cell? ⟨A, 201, none⟩ = some (.slice (some ⟨g, 0, none⟩) l.length cap) ∧ W.cell? ⟨g, q, none⟩ = some (.string (nthB l q)) :=
        fun W hW => ⟨hW.cell k2, hW.cell k3, hW.cell k4, hW.cell k1⟩
      refine wpIn_round_held (fun W => W.cell? ⟨w.heap.size, 0, none⟩ = some (.pointer (some ⟨A, 0, none⟩)) ∧ W.cell? ⟨w.heap.size + 1, 0, none⟩ = some (.int .i64 b) ∧ W.cell? ⟨A, 201, none⟩ = some (.slice (some ⟨g, 0, none⟩) l.length cap) ∧ W.cell? ⟨g, q, none⟩ = some (.string (nthB l q))) (by kernel_rfl) (by rintro ⟨a, w, h⟩; exact h) (by kernel_rfl) ?_
      have hS7 := hSx W7.drew ((Ext.refl W7).drew)
      refine wpAnyH_take (i := 0) (v := .pointer (some ⟨A, 0, none⟩)) (fuel := 13) rfl (by kernel_rfl) (by kernel_rfl) (by kernel_rfl) (fun _ _ _ h => h) (.inl ⟨rfl, fun W hS => by obtain ⟨e1, e2, e3, e4⟩ := hS; go_simp⟩) hS7 ?_
      refine wpAnyH_take (i := 1) (v := .pointer (some ⟨A, 0, none⟩)) (fuel := 12) rfl (by kernel_rfl) (by kernel_rfl) (by kernel_rfl) (fun _ _ _ h => h) (.inl ⟨rfl, fun W hS => by obtain ⟨e1, e2, e3, e4⟩ := hS; go_simp⟩) hS7 ?_
      refine wpAnyH_take (i := 2) (v := .pointer (some ⟨A, 201, none⟩)) (fuel := 11) rfl (by kernel_rfl) (by kernel_rfl) (by kernel_rfl) (fun _ _ _ h => h) (.inl ⟨rfl, fun W hS => by obtain ⟨e1, e2, e3, e4⟩ := hS; go_simp⟩) hS7 ?_
      refine wpAnyH_take (i := 3) (v := .slice (some ⟨g, 0, none⟩) l.length cap) (fuel := 10) rfl (by kernel_rfl) (by kernel_rfl) (by kernel_rfl) (fun _ _ _ h => h) (.inl ⟨rfl, fun W hS => by obtain ⟨e1, e2, e3, e4⟩ := hS; go_simp⟩) hS7 ?_
      refine wpAnyH_take (i := 4) (v := .int .i64 q) (fuel := 9) rfl (by kernel_rfl) (by kernel_rfl) (by kernel_rfl) (fun _ _ _ h => h) (.inl ⟨rfl, fun W hS => by obtain ⟨e1, e2, e3, e4⟩ := hS; go_simp⟩) hS7 ?_
      refine wpAnyH_take (i := 5) (v := .pointer (some ⟨g, q, none⟩)) (fuel := 8) rfl (by kernel_rfl) (by kernel_rfl) (by kernel_rfl) (fun _ _ _ h => h) (.inl ⟨rfl, fun W hS => by obtain ⟨e1, e2, e3, e4⟩ := hS; go_simp⟩) hS7 ?_
      refine wpAnyH_take (i := 6) (v := .string (nthB l q)) (fuel := 7) rfl (by kernel_rfl) (by kernel_rfl) (by kernel_rfl) (fun _ _ _ h => h) (.inl ⟨rfl, fun W hS => by obtain ⟨e1, e2, e3, e4⟩ := hS; go_simp⟩) hS7 ?_
      refine wpAnyH_take (i := 7) (v := .int .i64 b) (fuel := 6) rfl (by kernel_rfl) (by kernel_rfl) (by kernel_rfl) (fun _ _ _ h => h) (.inl ⟨rfl, fun W hS => by obtain ⟨e1, e2, e3, e4⟩ := hS; go_simp⟩) hS7 ?_
      refine wpAnyH_one (i := 8) (fuel := 5) rfl (by kernel_rfl) rfl fun K' hK => ?_
      go_simp
      refine (hfit _).mono ?_
      rintro e w6 ⟨rfl, hx6⟩
      have hx6' : Ext W7 w6 := Ext.trans ((Ext.refl W7).drew) hx6
      have hS6 := hSx w6 hx6'
      refine hK _ _ hS6 ?_
      clear hK K'
      refine wpAnyH_take (i := 9) (v := .tuple #[.bool (holdsB (nthB l q) b), .int .i64 0]) (fuel := 4) rfl (by kernel_rfl) (by kernel_rfl) (by kernel_rfl) (fun _ _ _ h => h) (.inl ⟨rfl, fun W hS => by obtain ⟨e1, e2, e3, e4⟩ := hS; go_simp⟩) hS6 ?_
      refine wpAnyH_take (i := 10) (v := .bool (holdsB (nthB l q) b)) (fuel := 3) rfl (by kernel_rfl) (by kernel_rfl) (by kernel_rfl) (fun _ _ _ h => h) (.inl ⟨rfl, fun W hS => by obtain ⟨e1, e2, e3, e4⟩ := hS; go_simp⟩) hS6 ?_
      refine wpAnyH_take (i := 11) (v := .int .i64 0) (fuel := 2) rfl (by kernel_rfl) (by kernel_rfl) (by kernel_rfl) (fun _ _ _ h => h) (.inl ⟨rfl, fun W hS => by obtain ⟨e1, e2, e3, e4⟩ := hS; go_simp⟩) hS6 ?_
      refine wpAnyH_take (i := 12) (v := .bool (holdsB (nthB l q) b)) (fuel := 1) rfl (by kernel_rfl) (by kernel_rfl) (by kernel_rfl) (fun _ _ _ h => h) (.inl ⟨rfl, fun W hS => by obtain ⟨e1, e2, e3, e4⟩ := hS; go_simp⟩) hS6 ?_
      refine wpAnyH_take (i := 13) (v := .int .i64 0) (fuel := 0) rfl (by kernel_rfl) (by kernel_rfl) (by kernel_rfl) (fun _ _ _ h => h) (.inl ⟨rfl, fun W hS => by obtain ⟨e1, e2, e3, e4⟩ := hS; go_simp⟩) hS6 ?_
      refine wpAnyH_done (by kernel_rfl) ?_ 0
      have b1 : Boxed w6 _ _ _ := hx6'.heap (g := w.heap.size) (hsB.1)
      have b2 : Boxed w6 _ _ _ := hx6'.heap (g := w.heap.size + 1) hsB.2.1
      have b3 : Boxed w6 _ _ _ := hx6'.heap (g := w.heap.size + 2) hsB.2.2.1
      have b4 : Boxed w6 _ _ _ := hx6'.heap (g := w.heap.size + 3) hsB.2.2.2.1
      have b5 : Boxed w6 _ _ _ := hx6'.heap (g := w.heap.size + 4) hsB.2.2.2.2.1
      have b6 : Boxed w6 _ _ _ := hx6'.heap (g := w.heap.size + 4 + 1) hsB.2.2.2.2.2
      have hx8 := hx7.trans hx6'
      have hs8 := fun j hj => hs7 w6 j hx6' hj
      clear hs7 hSx hS7 hS6 k1 k2 k3 k4 hsB hmay hfit hpq hsame c1 c2 c3 c4 hx6 hx6' hx7
      have eq' : ((near : Int) + i) % (l.length : Int) = q := by rw [← hqe]; simp
      cases hh : holdsB (nthB l q) b with
      | false =>
        have Hh := Lib.hid hh
        have Hn := Lib.hid hno
        clear hh hno hf eq'
        gi_wp2
        exact ⟨hs8 _ (by omega), hs8 _ (by omega), ⟨b1, b2, b3, b4, b5, b6⟩, hx8, fun j hj => by
          by_cases hji : j = i
          · rw [hji, hqe, Hh.out]
          · exact Hn.out j (by omega)⟩
      | true =>
        have Hh := Lib.hid hh
        have Hn := Lib.hid hno
        clear hh hno hf eq'
        have f3 := b3.frozen
        have f4 := b4.frozen
        have q3 := b3.cell
        have q4 := b4.cell
        gi_wp2
        refine ⟨(Below.heap_setCell _ _ _ _ (by simp; omega)).trans ((Below.heap_setCell _ _ _ _ (by simp; omega)).trans (hs8 _ (by omega))), (Below.heap_setCell _ _ _ _ (by simp; omega)).trans ((Below.heap_setCell _ _ _ _ (by simp; omega)).trans (hs8 _ (by omega))), rfl, (hx8.setCell (Nat.le_add_right _ 2) _).setCell (Nat.le_add_right _ 3) _, ?_, (b4.other (by omega) _).set _, by rw [hqe]; exact Hh.out, Hn.out⟩
        rw [hqe]
        exact (b3.set _).other (by omega) _
    · rw [decide_eq_false hm] at hmay
      have hhf : holdsB (nthB l q) b = false := by
        cases hh : holdsB (nthB l q) b with
        | false => rfl
        | true =>
          have := holds_may hv b hh
          rw [hz] at this
          exact absurd this hm
      have Hh := Lib.hid hhf
      have Hn := Lib.hid hno
      clear hhf hno hf hfit hpq
      gi_wp2
      refine wpIn_round_quiet (by kernel_rfl) (by kernel_rfl) (by kernel_rfl) ?_
      repeat (go_big_quiet_step ((go_at_call 55; exact hmay _)))
      refine wpQuiet_nil ?_
      intro _ hw'
      obtain ⟨nq, rfl⟩ := hw'
      gi_wp2
      exact ⟨hsame _ _ ((Ext.refl W2).drewN nq) (by omega), hsame _ _ ((Ext.refl W2).drewN nq) (by omega), ⟨h1, h2, h3, h4, h5, h6⟩, hx.drewN nq, fun j hj => by
        by_cases hji : j = i
        · rw [hji, hqe, Hh.out]
        · exact Hn.out j (by omega)⟩
  case done =>
    rintro W ⟨⟨h1, h2, h3, h4, h5, h6⟩, hx, hno⟩ hD
    have hr' : r = (0, 13) := by
      rcases hf with ⟨i, h1, h2, h3, h4⟩ | ⟨_, h2⟩
      · rw [hno i h1] at h2; cases h2
      · exact h2
    subst hr'
    refine wpAt_of_wp ?_
    have f3 := h3.frozen
    have f4 := h4.frozen
    have q3 := h3.cell
    have q4 := h4.cell
    clear hf hno
    have fin : ∀ x y : Value, ∃ W', W' = ((W.setCell ⟨w.heap.size + 2, 0, none⟩ x).setCell ⟨w.heap.size + 3, 0, none⟩ y).putObj w5.heap.size (.deferred none) ∧ W'.cell? ⟨w.heap.size + 2, 0, none⟩ = some x ∧ W'.cell? ⟨w.heap.size + 3, 0, none⟩ = some y ∧ Ext w W' := fun x y => by
      refine ⟨_, rfl, ?_, ?_, ?_⟩
      · have := Upd.heap (grownBy_putObj' ((W.setCell ⟨w.heap.size + 2, 0, none⟩ x).setCell ⟨w.heap.size + 3, 0, none⟩ y) w5.heap.size (.deferred none)) (((h3.set x).other (by omega) y)) (by omega)
        exact Boxed.cell this
      · have := Upd.heap (grownBy_putObj' ((W.setCell ⟨w.heap.size + 2, 0, none⟩ x).setCell ⟨w.heap.size + 3, 0, none⟩ y) w5.heap.size (.deferred none)) (((h4.other (by omega) x).set y)) (by omega)
        exact Boxed.cell this
      · exact Upd.ext ((hx.setCell (Nat.le_add_right _ 2) _).setCell (Nat.le_add_right _ 3) _) (grownBy_putObj' _ _ _) (by omega)
    obtain ⟨W', hW', q5, q6, hxW⟩ := fin (.int .i64 0) (.int .i64 13)
    have HW := Lib.hid hW'
    clear fin hW'
    go_wp2
    refine ⟨by simp, .inl ⟨_, _, rfl, run_takeDeferred (by rw [← ez]; exact ((Below.heap_setCell _ _ _ _ (by simp; omega)).trans ((Below.heap_setCell _ _ _ _ (by simp; omega)).trans hD))), ?_⟩⟩
    rw [← ez, ← HW.out]
    exact ⟨.tuple #[.int .i64 0, .int .i64 13], by simp [results, Try.results40, go_sem, q5, q6], rfl, hxW⟩
  case stop =>
    rintro i c W hi ⟨rfl, hx, h3, h4, hy, hno⟩ hD
    have hr' : r = ((((near + i) % l.length : Nat) : Int), 0) := by
      rcases hf with ⟨j, g1, g2, g3, g4⟩ | ⟨g1, _⟩
      · have : j = i := by
          rcases Nat.lt_trichotomy j i with hlt | heq | hgt
          · rw [hno j hlt] at g2; cases g2
          · exact heq
          · rw [g3 i hgt] at hy; cases hy
        rw [g4, this]
      · rw [g1 i hi] at hy; cases hy
    subst hr'
    generalize (near + i) % l.length = q at *
    clear hf hno hy
    have u3 := Boxed.cell (Upd.heap (grownBy_putObj' W w5.heap.size (.deferred none)) h3 (by omega))
    have u4 := Boxed.cell (Upd.heap (grownBy_putObj' W w5.heap.size (.deferred none)) h4 (by omega))
    have hxW : Ext w (W.putObj w5.heap.size (.deferred none)) := Upd.ext hx (grownBy_putObj' _ _ _) (by omega)
    go_wp2
    refine ⟨by simp, .inl ⟨_, _, rfl, run_takeDeferred hD, ?_⟩⟩
    exact ⟨.tuple #[.int .i64 q, .int .i64 0], by simp [results, Try.results40, go_sem, u3, u4], rfl, hxW⟩
end
section
open Go.RowKit
set_option linter.unusedVariables false
set_option maxRecDepth 20000

/-- what With has behind k cells, and whether the line is done -/
def withW (f : Nat → Cel) (x : Int) (s : ByteArray) : Nat → List Cel × Bool
  | 0 => ([], s.toList.isEmpty)
  | k + 1 => if (withW f x s k).2 = false ∧ x ≤ (f k).1 then ((withW f x s k).1 ++ [(x, s)] ++ (if (f k).1 = x then [] else [f k]), true)
    else ((withW f x s k).1 ++ (if (f k).1 = x then [] else [f k]), (withW f x s k).2)
def withL (f : Nat → Cel) (x : Int) (s : ByteArray) (n : Nat) : List Cel := if (withW f x s n).2 then (withW f x s n).1 else (withW f x s n).1 ++ [(x, s)]
theorem withW_len (f : Nat → Cel) (x : Int) (s : ByteArray) : ∀ k, (withW f x s k).1.length ≤ 2 * k := by
  intro k
  induction k with
  | zero => simp [withW]
  | succ k ih =>
    unfold withW
    split <;> split <;> simp <;> omega
end
section
open Go.RowKit
set_option linter.unusedVariables false
set_option maxRecDepth 20000

def listF (f : Nat → Cel) (n : Nat) : List Cel := (List.range n).map f
theorem listF_succ (f : Nat → Cel) (n : Nat) : listF f (n + 1) = listF f n ++ [f n] := by simp [listF, List.range_succ]
theorem listF_length (f : Nat → Cel) (n : Nat) : (listF f n).length = n := by simp [listF]
theorem listF_congr {f g : Nat → Cel} {n : Nat} (h : ∀ i, i < n → f i = g i) : listF f n = listF g n := by
  unfold listF
  exact List.map_congr_left (fun i hi => h i (List.mem_range.1 hi))
theorem nthC_listF (f : Nat → Cel) (n i : Nat) (h : i < n) : nthC (listF f n) i = f i := by simp [nthC, listF, List.getD_eq_getElem?_getD, h]
theorem SlC.congr {w : World} {A : Option Addr} {n : Nat} {f g : Nat → Cel} (h : SlC w A n f) (e : ∀ i, i < n → f i = g i) : SlC w A n g :=
  ⟨fun i hi => by rw [← e i hi]; exact h.at_ i hi⟩

theorem with_low {f : Nat → Cel} {n : Nat} {x : Int} {pos : Nat} (hp : PosI n f x pos) (s : ByteArray) : ∀ k, k ≤ pos → withW f x s k = (listF f k, s.toList.isEmpty) := by
  intro k
  induction k with
  | zero => intro _; simp [withW, listF]
  | succ k ih =>
    intro hk
    have h1 := ih (by omega)
    have h2 := hp.below k (by omega)
    unfold withW
    rw [h1, if_neg (by intro h; omega), if_neg (by omega), listF_succ]
section
variable {f : Nat → Cel} {n : Nat} {x : Int} {pos : Nat} (hg : ¬ AnyBad f n) (hp : PosI n f x pos) (s : ByteArray)
include hg hp
theorem with_miss (he : ¬ (pos < n ∧ (f pos).1 = x)) (hs : s.toList.isEmpty = false) : withL f x s n = listF (insF f pos (x, s)) (n + 1) := by
  have hle := hp.le
  have hlow := with_low hp s pos (Nat.le_refl _)
  have hi : ∀ k, k ≤ pos → listF f k = listF (insF f pos (x, s)) k := fun k hk => listF_congr (fun i hi => by unfold insF; rw [if_pos (by omega)])
  have hall : ∀ k, pos < k → k ≤ n → withW f x s k = (listF (insF f pos (x, s)) (k + 1), true) := by
    intro k
    induction k with
    | zero => intro h; omega
    | succ k ih =>
      intro h1 h2
      have h3 := hp.above k (by omega) (by omega)
      by_cases hk : k = pos
      · subst hk
        have hne : ¬ (f k).1 = x := fun e => he ⟨by omega, e⟩
        unfold withW
        rw [hlow, if_pos ⟨hs, h3⟩, if_neg hne, listF_succ, listF_succ, ← hi k (Nat.le_refl _)]
        simp [insF]
        omega
      · have h4 := ih (by omega) (by omega)
        have hne : ¬ (f k).1 = x := by
          have := line_lt hg pos k (by omega) (by omega)
          have := hp.above pos (Nat.le_refl _) (by omega)
          omega
        unfold withW
        rw [h4, if_neg (by simp), if_neg hne, listF_succ _ (k + 1)]
        have : insF f pos (x, s) (k + 1) = f k := by unfold insF; rw [if_neg (by omega), if_neg (by omega), Nat.add_sub_cancel]
        rw [this]
  unfold withL
  rcases Nat.lt_or_ge pos n with hlt | hge
  · rw [hall n hlt (Nat.le_refl _)]
    rfl
  · obtain rfl : pos = n := by omega
    rw [hlow, hs, listF_succ, ← hi pos (Nat.le_refl _)]
    simp [insF]
theorem with_hit (he : pos < n ∧ (f pos).1 = x) (hs : s.toList.isEmpty = false) : withL f x s n = listF (setF f pos s) n := by
  have hlow := with_low hp s pos (Nat.le_refl _)
  have hall : ∀ k, pos < k → k ≤ n → withW f x s k = (listF (setF f pos s) k, true) := by
    intro k
    induction k with
    | zero => intro h; omega
    | succ k ih =>
      intro h1 h2
      by_cases hk : k = pos
      · subst hk
        unfold withW
        rw [hlow, if_pos ⟨hs, by omega⟩, if_pos he.2, listF_succ, listF_congr (g := setF f k s) (fun i hi => by unfold setF; rw [if_neg (by omega)])]
        simp [setF, he.2]
      · have h4 := ih (by omega) (by omega)
        have hne : ¬ (f k).1 = x := by
          have := line_lt hg pos k (by omega) (by omega)
          omega
        unfold withW
        rw [h4, if_neg (by simp), if_neg hne, listF_succ]
        have : setF f pos s k = f k := by unfold setF; rw [if_neg hk]
        rw [this]
  unfold withL
  rw [hall n he.1 (Nat.le_refl _)]
  rfl
theorem with_drop (he : pos < n ∧ (f pos).1 = x) (hs : s.toList.isEmpty = true) : withL f x s n = listF (delF f pos) (n - 1) := by
  have hlow := with_low hp s pos (Nat.le_refl _)
  have hall : ∀ k, pos < k → k ≤ n → withW f x s k = (listF (delF f pos) (k - 1), true) := by
    intro k
    induction k with
    | zero => intro h; omega
    | succ k ih =>
      intro h1 h2
      by_cases hk : k = pos
      · subst hk
        unfold withW
        rw [hlow, hs, if_neg (by simp), if_pos he.2, Nat.add_sub_cancel, listF_congr (g := delF f k) (fun i hi => by unfold delF; rw [if_pos (by omega)])]
        simp
      · have h4 := ih (by omega) (by omega)
        have hne : ¬ (f k).1 = x := by
          have := line_lt hg pos k (by omega) (by omega)
          omega
        obtain ⟨d, rfl⟩ : ∃ d, k = d + 1 := ⟨k - 1, by omega⟩
        unfold withW
        rw [h4, if_neg (by simp), if_neg hne, Nat.add_sub_cancel, Nat.add_sub_cancel, listF_succ]
        have : delF f pos d = f (d + 1) := by unfold delF; rw [if_neg (by omega)]
        rw [this]
  unfold withL
  rw [hall n he.1 (Nat.le_refl _)]
  rfl
end




/-- the end of a call with a text and an error -/
def two2 (r : ByteArray × Int) : Ending := .returned (.tuple #[.string r.1, .int .i64 r.2])


theorem data_ne {p : ByteArray} (hv : ValidR p) (i : Nat) (hi : i < cnt p) : (cel p i).2.toList.isEmpty = false := by
  have := good_at (cel_good hv) i hi
  have h : (cel p i).2.toList ≠ [] := by rw [ne_eq, toList_nil]; omega
  simpa using h

section
variable (p : ByteArray) (x : Int) (s : ByteArray) (w : World) (hv : ValidR p)
include hv


section
variable (h0 : -9223372036854775808 ≤ x) (h1 : x ≤ 9223372036854775807) (hl : lineB x = false)
include h0 h1 hl




end

section
variable (hx : 1 ≤ x ∧ x ≤ 200) (pos : Nat) (hp : PosI (cnt p) (cel p) x pos)
include hx hp








end
end
end
section
open Go.RowKit
set_option linter.unusedVariables false
set_option maxRecDepth 20000

/-- what Get tells of a line among cells -/
def GetR (f : Nat → Cel) (n : Nat) (i : Int) (r : ByteArray × Int) : Prop :=
  (∃ k, k < n ∧ (f k).1 = i ∧ r = ((f k).2, 0)) ∨ ((∀ k, k < n → (f k).1 ≠ i) ∧ r = (⟨#[]⟩, 8))
theorem getR_some (f : Nat → Cel) (n : Nat) (i : Int) : ∃ r, GetR f n i r := by
  by_cases h : ∃ k, k < n ∧ (f k).1 = i
  · obtain ⟨k, h1, h2⟩ := h
    exact ⟨_, .inl ⟨k, h1, h2, rfl⟩⟩
  · exact ⟨_, .inr ⟨fun k h1 h2 => h ⟨k, h1, h2⟩, rfl⟩⟩
theorem getR_congr {f g : Nat → Cel} {n : Nat} {i : Int} {r : ByteArray × Int} (h : GetR f n i r) (e : ∀ k, k < n → f k = g k) : GetR g n i r := by
  rcases h with ⟨k, h1, h2, h3⟩ | ⟨h1, h2⟩
  · exact .inl ⟨k, h1, by rw [← e k h1]; exact h2, by rw [← e k h1]; exact h3⟩
  · exact .inr ⟨fun k hk => by rw [← e k hk]; exact h1 k hk, h2⟩
theorem getR_ins {f : Nat → Cel} {n pos : Nat} {x : Int} {s : ByteArray} {i : Int} {r : ByteArray × Int} (h : GetR f n i r) (hne : i ≠ x) (hp : pos ≤ n) : GetR (insF f pos (x, s)) (n + 1) i r := by
  rcases h with ⟨k, h1, h2, h3⟩ | ⟨h1, h2⟩
  · by_cases hk : k < pos
    · exact .inl ⟨k, by omega, by unfold insF; rw [if_pos hk]; exact h2, by unfold insF; rw [if_pos hk]; exact h3⟩
    · exact .inl ⟨k + 1, by omega, by unfold insF; rw [if_neg (by omega), if_neg (by omega)]; exact h2, by unfold insF; rw [if_neg (by omega), if_neg (by omega)]; exact h3⟩
  · refine .inr ⟨fun k hk => ?_, h2⟩
    unfold insF
    split
    · exact h1 k (by omega)
    · split
      · exact fun e => hne e.symm
      · exact h1 (k - 1) (by omega)
theorem getR_set {f : Nat → Cel} {n pos : Nat} {x : Int} {s : ByteArray} {i : Int} {r : ByteArray × Int} (h : GetR f n i r) (hne : i ≠ x) (hx : (f pos).1 = x) : GetR (setF f pos s) n i r := by
  rcases h with ⟨k, h1, h2, h3⟩ | ⟨h1, h2⟩
  · have hk : ¬ k = pos := fun e => hne (by rw [← h2, e, hx])
    exact .inl ⟨k, h1, by unfold setF; rw [if_neg hk]; exact h2, by unfold setF; rw [if_neg hk]; exact h3⟩
  · refine .inr ⟨fun k hk => ?_, h2⟩
    unfold setF
    split
    · rw [hx]; exact fun e => hne e.symm
    · exact h1 k hk
theorem getR_del {f : Nat → Cel} {n pos : Nat} {x : Int} {i : Int} {r : ByteArray × Int} (h : GetR f n i r) (hne : i ≠ x) (hp : pos < n) (hx : (f pos).1 = x) : GetR (delF f pos) (n - 1) i r := by
  rcases h with ⟨k, h1, h2, h3⟩ | ⟨h1, h2⟩
  · have hk : ¬ k = pos := fun e => hne (by rw [← h2, e, hx])
    by_cases hk2 : k < pos
    · exact .inl ⟨k, by omega, by unfold delF; rw [if_pos hk2]; exact h2, by unfold delF; rw [if_pos hk2]; exact h3⟩
    · obtain ⟨d, rfl⟩ : ∃ d, k = d + 1 := ⟨k - 1, by omega⟩
      exact .inl ⟨d, by omega, by unfold delF; rw [if_neg (by omega)]; exact h2, by unfold delF; rw [if_neg (by omega)]; exact h3⟩
  · refine .inr ⟨fun k hk => ?_, h2⟩
    unfold delF
    split
    · exact h1 k (by omega)
    · exact h1 (k + 1) (by omega)

theorem get_rel (p : ByteArray) (x : Int) (r : ByteArray × Int) (w : World) (hv : ValidR p) (hx : 1 ≤ x ∧ x ≤ 200) (hr : GetR (cel p) (cnt p) x r) :
    Calls Try.prog 43 #[.string p, .int .i64 x] w fun e w' => e = two2 r ∧ Ext w w' := by
  have hG := cel_good hv
  obtain ⟨pos, hp⟩ := pos_of hG x
  rcases hr with ⟨k, h1, h2, rfl⟩ | ⟨h1, rfl⟩
  · have hk : k = pos := by
      rcases Nat.lt_trichotomy k pos with h | h | h
      · have := hp.below k h; omega
      · exact h
      · have := hp.above pos (Nat.le_refl _) (by omega)
        have := line_lt hG pos k h h1
        omega
    subst hk
    exact get_hit p x w hv hx k hp ⟨h1, h2⟩
  · exact get_miss p x w hv hx pos hp (fun h => h1 pos h.1 h.2)
end
section
open Go.RowKit
set_option linter.unusedVariables false
set_option maxRecDepth 20000

theorem filled_valid (size m : Nat) (g : Nat → Cel) (hg : ¬ AnyBad g m) (hz : sizeB size = true) (h0 : (filledRes size m g).2 = 0) :
    (filledRes size m g).1.size = size ∧ ValidR (filledRes size m g).1 ∧ cnt (filledRes size m g).1 = m ∧ ∀ i, i < m → cel (filledRes size m g).1 i = g i := by
  have hr : ¬ roomF size g m < 0 := by
    intro h
    unfold filledRes at h0
    rw [if_pos h] at h0
    cases h0
  have hm := count_le hg
  obtain ⟨h1, h2, h3⟩ := built_page size m g hg (fit_of_good hg hm hz hr) hz (filledRes size m g).1 (by unfold filledRes; rw [if_neg hr])
  have h4 : cnt (filledRes size m g).1 = m := by unfold cnt; rw [h3]; simp
  refine ⟨h1, h2, h4, fun i hi => ?_⟩
  unfold cel
  rw [h3]
  exact nthC_listF g m i hi

/-- a call of the program and one of the reference that end alike -/
def Both2 (F G : FuncId) (args : Array Value) (r : ByteArray × Int) : Prop :=
  (∀ w, Calls Try.prog F args w fun e w' => e = two2 r ∧ Ext w w') ∧ (∀ w, Calls Try.prog G args w fun e w' => e = two2 r ∧ Ext w w')

section
variable (p : ByteArray) (x : Int) (s : ByteArray) (hv : ValidR p) (h0 : -9223372036854775808 ≤ x) (h1 : x ≤ 9223372036854775807)
include hv h0 h1





end
end
end Go.Proofs.Ytcbainmpikcfjaa
