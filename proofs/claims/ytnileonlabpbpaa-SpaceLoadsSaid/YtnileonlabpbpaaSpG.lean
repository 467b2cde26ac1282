/- Areas: Free; the reader of images. -/
import Derived.Test.YtnileonlabpbpaaSpF
namespace Go.Proofs.Ytnileonlabpbpaa
open Go.RowKit
set_option linter.unusedVariables false
set_option maxRecDepth 20000
set_option maxRecDepth 20000

/-- the sum of the rooms of the first k pages -/
noncomputable def sumRoom (l : List ByteArray) : Nat → Int
  | 0 => 0
  | k + 1 => sumRoom l k + roomP (nthB l k)
theorem sumRoom_le (l : List ByteArray) (hv : ∀ i, i < l.length → ValidR (nthB l i)) : ∀ k, k ≤ l.length → 0 ≤ sumRoom l k ∧ sumRoom l k ≤ k * 4096 := by
  intro k
  induction k with
  | zero => intro _; simp [sumRoom]
  | succ k ih =>
    intro hk
    have h1 := ih (by omega)
    have h2 := roomP_le (hv k (by omega))
    have h3 := sizes_of (hv k (by omega))
    unfold sumRoom
    omega
theorem sfree_any (A g size cap : Nat) (l : List ByteArray) (lv : List UInt8) (w : World) (h : Sp w A g size l lv cap) :
    Calls Try.prog 24 #[.pointer (some ⟨A, 0, none⟩)] w fun e w' => e = .returned (.int .i64 (sumRoom l l.length)) ∧ Ext w w' := by
  have hle := h.le
  have hgood := fun i hi => (h.good i hi).1
  have hb := sumRoom_le l hgood
  have hF : ∀ i, i < l.length → ∀ W, Calls Try.prog 37 #[.string (nthB l i)] W fun e w' => e = .returned (.tuple #[.int .i64 (roomP (nthB l i)), .int .i64 0]) ∧ Ext W w' := fun i hi W => free_ok _ W (hgood i hi)
  go_enter Try.func24, Try.ntmps24
  go_wp2_with (go_at_call 23; refine (pages_is A lv size _ _ cap _ h.ar).mono ?_; rintro e w1 ⟨rfl, rfl⟩)
  go_loopw [3, 4, 5, 6, 9] (fun s _ _ _ i wr => ∃ k : Nat, k ≤ l.length ∧ i = .int .i64 k ∧ s = .int .i64 (sumRoom l k) ∧ Ext w wr) (fun _ _ _ _ i _ => l.length - (intOf i).toNat)
  case atStart => exact ⟨0, by omega, rfl, rfl, Ext.refl w⟩
  case round =>
    obtain ⟨k, hk, rfl, rfl, hx⟩ := hrel
    by_cases hlt : k < l.length
    · have h1 := h.ext hx
      have g1 := h1.ar.pagesC
      have g2 := nthCell h1 k hlt
      have c1 : (k : Int) < l.length := by omega
      have b1 := hb k hk
      have b2 := hb (k + 1) (by omega)
      have e1 : sumRoom l (k + 1) = sumRoom l k + roomP (nthB l k) := rfl
      rw [e1] at b2
      have He := Lib.hid e1
      have hFk := hF k hlt
      clear e1 hF hb hgood
      generalize sumRoom l k = s0 at *
      generalize roomP (nthB l k) = r0 at *
      go_wp2_with (go_at_call 37; refine (hFk _).mono ?_; rintro e w2 ⟨rfl, hx2⟩)
      exact ⟨⟨k + 1, by omega, by go_num, by rw [He.out], hx.trans hx2⟩, by simp [intOf]; omega⟩
    · obtain rfl : k = l.length := by omega
      go_wp2
      go_ret
      exact ⟨rfl, hx⟩

/-- a reader in memory -/
def Rdr (w : World) (R : Nat) (s : ByteArray) (at_ : Nat) : Prop := w.heap[R]? = some (.cells #[.string s, .int .i64 at_] 44 (0, 0))
theorem Rdr.cells {w : World} {R : Nat} {s : ByteArray} {at_ : Nat} (h : Rdr w R s at_) : w.cell? ⟨R, 0, none⟩ = some (.string s) ∧ w.cell? ⟨R, 1, none⟩ = some (.int .i64 at_) ∧ w.frozen? ⟨R, 0, none⟩ = false ∧ w.frozen? ⟨R, 1, none⟩ = false := addr_cells h
theorem Rdr.set_ {w : World} {R : Nat} {s : ByteArray} {a : Nat} (h : Rdr w R s a) (b : Nat) (v : Value) (hv : v = .int .i64 b) : Rdr (w.setCell ⟨R, 1, none⟩ v) R s b := by
  subst hv
  unfold Rdr at *
  rw [heap_setCell_same w R 1 _ _ _ h]
  rfl
theorem byte_end (R : Nat) (s : ByteArray) (a : Nat) (w : World) (h : Rdr w R s a) (ha : s.size ≤ a) (hs : a ≤ 4611686018427387904) :
    Calls Try.prog 11 #[.pointer (some ⟨R, 0, none⟩)] w fun e w' => e = .returned (.int .i64 (-1)) ∧ Rdr w' R s a ∧ Upd w R w' := by
  obtain ⟨c0, c1, f0, f1⟩ := h.cells
  have d1 : (s.size : Int) ≤ a := by omega
  go_enter Try.func11, Try.ntmps11
  go_wp2
  go_quiet (fail)
  go_wp2
  go_ret
  exact ⟨rfl, h, Upd.of_ext ((Ext.refl w).drewN _) R⟩
theorem byte_next (R : Nat) (s : ByteArray) (a : Nat) (w : World) (h : Rdr w R s a) (ha : a < s.size) (hs : s.size ≤ 140737488355328) :
    Calls Try.prog 11 #[.pointer (some ⟨R, 0, none⟩)] w fun e w' => e = .returned (.int .i64 (bt s a)) ∧ Rdr w' R s (a + 1) ∧ Upd w R w' := by
  obtain ⟨c0, c1, f0, f1⟩ := h.cells
  have d1 : ¬ (s.size : Int) ≤ a := by omega
  have hg := get_bt s a ha
  have hb := bt_lt s a
  have k1 : IntKind.i64.wrap ((a : Int) + 1) = a + 1 := IntWalk.i64_in _ ⟨by omega, by omega⟩
  have k2 : IntKind.i64.wrap ((a : Int) + 1 - 1) = a := by rw [Int.add_sub_cancel]; exact IntWalk.i64_in _ ⟨by omega, by omega⟩
  have d2 : (a : Int) < s.size := by omega
  go_enter Try.func11, Try.ntmps11
  go_wp2
  go_quiet (fail)
  go_wp2
  have h7 : Rdr ((w.drewN nq).setCell ⟨R, 1, none⟩ (.int .i64 ((a : Int) + 1))) R s (a + 1) := Rdr.set_ (w := w.drewN nq) h (a + 1) _ (by simp)
  have hu7 : Upd w R ((w.drewN nq).setCell ⟨R, 1, none⟩ (.int .i64 ((a : Int) + 1))) := (Upd.of_ext ((Ext.refl w).drewN nq) R).trans (Upd.setCell _ _ _ _)
  obtain ⟨q0, q1, _, _⟩ := h7.cells
  have q2 : ((a + 1 : Nat) : Int) = (a : Int) + 1 := by omega
  rw [q2] at q1
  clear c0 c1 f0 f1 q2
  generalize (w.drewN nq).setCell ⟨R, 1, none⟩ (.int .i64 ((a : Int) + 1)) = W7 at *
  go_quiet (fail)
  go_wp2
  go_ret
  exact ⟨rfl, h7, hu7.trans (Upd.of_ext ((Ext.refl W7).drewN _) R)⟩

theorem number_end (R : Nat) (s : ByteArray) (a : Nat) (fv : Value) (w : World) (h : Rdr w R s a) (ha : a ≤ s.size) (ha2 : s.size < a + 2) (hs : s.size ≤ 140737488355328) :
    Calls Try.prog 12 #[.pointer (some ⟨R, 0, none⟩), fv] w fun e w' => e = .returned (.tuple #[.int .i64 0, .bool false]) ∧ Rdr w' R s s.size ∧ Upd w R w' := by
  have step2 : ∀ (v : Int) (b : Nat) (W : World), Rdr W R s b → s.size ≤ b → b ≤ 140737488355328 → Calls Try.prog 11 #[.pointer (some ⟨R, 0, none⟩)] W fun e w' => e = .returned (.int .i64 (-1)) ∧ Rdr w' R s b ∧ Upd W R w' :=
    fun v b W hW h1 h2 => byte_end R s b W hW h1 (by omega)
  rcases Nat.lt_or_ge a s.size with hlt | hge
  · have hB := byte_next R s a w h hlt hs
    generalize bt s a = v0 at *
    go_enter Try.func12, Try.ntmps12
    go_wp2_with fail
    refine hB.mono ?_
    rintro e w1 ⟨rfl, h1, hu1⟩
    go_wp2_with fail
    refine (step2 0 (a + 1) w1 h1 (by omega) (by omega)).mono ?_
    rintro e w2 ⟨rfl, h2, hu2⟩
    obtain ⟨c0, c1, f0, f1⟩ := h2.cells
    have h3 := h2.set_ s.size (.int .i64 s.size) rfl
    go_wp2
    go_ret2
    exact ⟨rfl, h3, (hu1.trans hu2).trans (Upd.setCell _ _ _ _)⟩
  · go_enter Try.func12, Try.ntmps12
    go_wp2_with fail
    refine (step2 0 a w h (by omega) (by omega)).mono ?_
    rintro e w1 ⟨rfl, h1, hu1⟩
    go_wp2_with fail
    refine (step2 0 a w1 h1 (by omega) (by omega)).mono ?_
    rintro e w2 ⟨rfl, h2, hu2⟩
    obtain ⟨c0, c1, f0, f1⟩ := h2.cells
    have h3 := h2.set_ s.size (.int .i64 s.size) rfl
    go_wp2
    go_ret2
    exact ⟨rfl, h3, (hu1.trans hu2).trans (Upd.setCell _ _ _ _)⟩

theorem number_in (R : Nat) (s : ByteArray) (a : Nat) (fid : FuncId) (m : Bool) (w : World) (h : Rdr w R s a) (ha : a + 2 ≤ s.size) (hs : s.size ≤ 140737488355328) (hf : ∀ args w, (callFunc fid args).run Try.prog w = .ok (.enter fid args) w)
    (hM : ∀ W, Calls Try.prog fid #[.int .i64 (twoF s a)] W fun e w' => e = .returned (.bool m) ∧ Ext W w') :
    Calls Try.prog 12 #[.pointer (some ⟨R, 0, none⟩), .func (.func fid) #[] #[]] w fun e w' =>
      e = .returned (.tuple #[.int .i64 (if m then (twoF s a : Int) else 0), .bool m]) ∧ Rdr w' R s (if m then a + 2 else a) ∧ Upd w R w' := by
  have hB1 := byte_next R s a w h (by omega) hs
  have hB2 := fun W hW => byte_next R s (a + 1) W hW (by omega) hs
  have b1 := bt_lt s a
  have b2 := bt_lt s (a + 1)
  have ho := or_two _ _ b1 b2
  rw [IntWalk.wrap64_in _ ⟨by omega, by omega⟩] at ho
  have ht : twoF s a = 256 * bt s a + bt s (a + 1) := rfl
  rw [← ht] at ho
  have Ht := Lib.hid ht
  clear ht
  have hRl : R < w.heap.size := (Array.getElem?_eq_some_iff.1 h).1
  generalize bt s a = x at *
  generalize bt s (a + 1) = y at *
  generalize twoF s a = v at *
  cases m with
  | true =>
    simp only [if_true]
    go_enter Try.func12, Try.ntmps12
    go_wp2_with fail
    refine hB1.mono ?_
    rintro e w1 ⟨rfl, h1, hu1⟩
    go_wp2_with fail
    refine (hB2 w1 h1).mono ?_
    rintro e w2 ⟨rfl, h2, hu2⟩
    go_wp2_with fail
    refine (hM _).mono ?_
    rintro e w3 ⟨rfl, hx3⟩
    go_wp2
    go_ret2
    exact ⟨rfl, hx3.heap h2, (hu1.trans hu2).trans (Upd.of_ext hx3 R)⟩
  | false =>
    simp only [Bool.false_eq_true, if_false]
    have k1 : ((a : Int) + 1 + 1 - 2) = a := by omega
    go_enter Try.func12, Try.ntmps12
    go_wp2_with fail
    refine hB1.mono ?_
    rintro e w1 ⟨rfl, h1, hu1⟩
    go_wp2_with fail
    refine (hB2 w1 h1).mono ?_
    rintro e w2 ⟨rfl, h2, hu2⟩
    go_wp2_with fail
    refine (hM _).mono ?_
    rintro e w3 ⟨rfl, hx3⟩
    have h3 : Rdr w3 R s (a + 1 + 1) := hx3.heap h2
    obtain ⟨c0, c1, f0, f1⟩ := h3.cells
    have h4 := h3.set_ a (.int .i64 a) rfl
    have c2 : w3.cell? ⟨R, 1, none⟩ = some (.int .i64 ((a : Int) + 2)) := by rw [c1]; congr 2
    clear c1
    go_wp2
    go_ret2
    exact ⟨rfl, h4, ((hu1.trans hu2).trans (Upd.of_ext hx3 R)).trans (Upd.setCell _ _ _ _)⟩
end Go.Proofs.Ytnileonlabpbpaa
