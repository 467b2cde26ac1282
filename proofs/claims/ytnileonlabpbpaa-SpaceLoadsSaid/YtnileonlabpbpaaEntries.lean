/- page.entries: what it returns or panics with. -/
import Derived.Test.YtnileonlabpbpaaSlots
import Derived.Shelf.Abstract
import Derived.WalkSmall
namespace Go.Proofs.Ytnileonlabpbpaa
open Go.RowKit
set_option linter.unusedVariables false
set_option maxRecDepth 20000
attribute [local go_sem] Oper.semAt_some

/-- slot k is free -/
def freeS (p : ByteArray) (k : Nat) : Prop := twoF p (2 + 4 * k) = 0 ∧ twoF p (4 + 4 * k) = 0
/-- slot k does not fit behind data that begin at top -/
def badS (p : ByteArray) (top k : Nat) : Prop := ¬ freeS p k ∧ (twoF p (4 + 4 * k) = 0 ∨ twoF p (2 + 4 * k) + twoF p (4 + 4 * k) ≠ top ∨ twoF p (2 + 4 * k) < 2 + 4 * twoF p 0)
instance (p : ByteArray) (k : Nat) : Decidable (freeS p k) := by unfold freeS; exact inferInstance
instance (p : ByteArray) (t k : Nat) : Decidable (badS p t k) := by unfold badS; exact inferInstance
/-- where the data begin behind k slots, and the last used line -/
def topF (p : ByteArray) : Nat → Nat
  | 0 => p.size
  | k + 1 => if freeS p k then topF p k else twoF p (2 + 4 * k)
def lastS (p : ByteArray) : Nat → Nat
  | 0 => 0
  | k + 1 => if freeS p k then lastS p k else k + 1
/-- the first k slots are good -/
def goodS (p : ByteArray) (k : Nat) : Prop := ∀ i, i < k → ¬ badS p (topF p i) i
theorem goodS_succ {p : ByteArray} {k : Nat} (h : goodS p k) (hb : ¬ badS p (topF p k) k) : goodS p (k + 1) := by
  intro i hi
  by_cases e : i = k
  · subst e; exact hb
  · exact h i (by omega)
theorem lastS_le (p : ByteArray) (k : Nat) : lastS p k ≤ k := by
  induction k with
  | zero => simp [lastS]
  | succ k ih =>
    unfold lastS
    split
    · omega
    · omega
theorem topF_lt (p : ByteArray) (hp : p.size ≤ 4096) (k : Nat) : topF p k < 65536 := by
  induction k with
  | zero => simp [topF]; omega
  | succ k ih =>
    unfold topF
    split
    · exact ih
    · have b1 := bt_lt p (2 + 4 * k)
      have b2 := bt_lt p (2 + 4 * k + 1)
      unfold twoF
      omega
/-- what leaves page.Wrong -/
def wrongV (at_ : Nat) (e : Int) : Value := .iface 68 (.agg #[.int .i64 at_, .int .i64 e])

set_option maxHeartbeats 2000000 in
theorem entries_any (p : ByteArray) (w : World) (h32 : 32 ≤ p.size) (hp : p.size ≤ 4096) (hN : 2 + 4 * twoF p 0 ≤ p.size) :
    Calls Try.prog 36 #[.string p] w fun e w' => Ext w w' ∧
      ((e = .returned (.int .i64 (topF p (twoF p 0))) ∧ goodS p (twoF p 0) ∧ lastS p (twoF p 0) = twoF p 0) ∨
       (∃ k, k < twoF p 0 ∧ goodS p k ∧ badS p (topF p k) k ∧ e = .panicked [{ v := wrongV (2 + 4 * k) 12, recovered := false }]) ∨
       (goodS p (twoF p 0) ∧ lastS p (twoF p 0) < twoF p 0 ∧ e = .panicked [{ v := wrongV (2 + 4 * (twoF p 0 - 1)) 12, recovered := false }])) := by
  refine calls_of_wpAt Try.func36 rfl ?_
  simp only [Try.ntmps36, List.size_toArray, List.length_cons, List.length_nil, Nat.reduceAdd, Nat.reduceSub, Array.replicate_succ, Array.replicate_zero, List.push_toArray, List.append_toArray, List.nil_append, List.cons_append]
  refine wpAt_seq_k (fun K hK => ?_)
  go_wp2
  refine wpAt_seq_k (fun K hK => ?_)
  go_wp2
  refine wpAt_seq_k (fun K hK => ?_)
  go_wp2
  refine wpAt_seq ?_
  refine wpAt_seq_k (fun K hK => ?_)
  go_wp2_with (go_at_call 53; refine (slots_any p _).mono ?_; rintro e w1 ⟨rfl, rfl⟩)
  have hb1 : Boxed ((((w.alloc (.cells #[.string p] 9)).alloc (.cells #[.int .i64 p.size] 3)).alloc (.cells #[.int .i64 0] 3)).alloc (.cells #[.string p] 9)) w.heap.size 9 (.string p) := ((((Boxed.new _ _ _).alloc _).alloc _).alloc _)
  have hb2 : Boxed ((((w.alloc (.cells #[.string p] 9)).alloc (.cells #[.int .i64 p.size] 3)).alloc (.cells #[.int .i64 0] 3)).alloc (.cells #[.string p] 9)) (w.heap.size + 1) 3 (.int .i64 p.size) := by
    have := Boxed.new (w.alloc (.cells #[.string p] 9)) 3 (.int .i64 p.size)
    rw [World.size_alloc] at this
    exact ((this.alloc _).alloc _)
  have hb3 : Boxed ((((w.alloc (.cells #[.string p] 9)).alloc (.cells #[.int .i64 p.size] 3)).alloc (.cells #[.int .i64 0] 3)).alloc (.cells #[.string p] 9)) (w.heap.size + 2) 3 (.int .i64 0) := by
    have := Boxed.new ((w.alloc (.cells #[.string p] 9)).alloc (.cells #[.int .i64 p.size] 3)) 3 (.int .i64 0)
    rw [World.size_alloc, World.size_alloc] at this
    exact this.alloc _
  have hb4 : Boxed ((((w.alloc (.cells #[.string p] 9)).alloc (.cells #[.int .i64 p.size] 3)).alloc (.cells #[.int .i64 0] 3)).alloc (.cells #[.string p] 9)) (w.heap.size + 3) 9 (.string p) := by
    have := Boxed.new (((w.alloc (.cells #[.string p] 9)).alloc (.cells #[.int .i64 p.size] 3)).alloc (.cells #[.int .i64 0] 3)) 9 (.string p)
    rw [World.size_alloc, World.size_alloc, World.size_alloc] at this
    exact this
  have hsz : ((((w.alloc (.cells #[.string p] 9)).alloc (.cells #[.int .i64 p.size] 3)).alloc (.cells #[.int .i64 0] 3)).alloc (.cells #[.string p] 9)).heap.size = w.heap.size + 4 := by simp [World.size_alloc]
  have hx0 : Ext w ((((w.alloc (.cells #[.string p] 9)).alloc (.cells #[.int .i64 p.size] 3)).alloc (.cells #[.int .i64 0] 3)).alloc (.cells #[.string p] 9)) := ((((Ext.refl w).alloc _).alloc _).alloc _).alloc _
  generalize ((((w.alloc (.cells #[.string p] 9)).alloc (.cells #[.int .i64 p.size] 3)).alloc (.cells #[.int .i64 0] 3)).alloc (.cells #[.string p] 9)) = w4 at *
  refine wpAt_block ?_
  refine wpAt_rangeFunc (hf := Try.func36) (gf := 65) (lb := #[.pointer (some ⟨w.heap.size + 3, 0, none⟩)]) rfl (enters_of Try.func65 (by kernel_rfl) rfl)
    (slots_seq p _ (by omega) (by omega) hN) (fun _ => rfl)
    (fun i W => (Boxed W w.heap.size 9 (.string p) ∧ Boxed W (w.heap.size + 1) 3 (.int .i64 (topF p i)) ∧ Boxed W (w.heap.size + 2) 3 (.int .i64 (lastS p i)) ∧ Boxed W (w.heap.size + 3) 9 (.string p)) ∧ Ext w W ∧ goodS p i)
    (fun _ _ _ => False)
    (fun i ch W => Ext w W ∧ goodS p i ∧ badS p (topF p i) i ∧ ch = [{ v := wrongV (2 + 4 * i) 12, recovered := false }])
    (fun i A B ⟨⟨h1, h2, h3, h4⟩, h5, h6⟩ hx => ⟨⟨hx.heap h1, hx.heap h2, hx.heap h3, hx.heap h4⟩, h5.trans hx, h6⟩)
    (fun _ _ _ _ h _ => h)
    (fun i A B ⟨⟨h1, h2, h3, h4⟩, h5, h6⟩ hx => ⟨⟨hx.heap h1 (by omega), hx.heap h2 (by omega), hx.heap h3 (by omega), hx.heap h4 (by omega)⟩, Upd.ext h5 hx (by omega), h6⟩)
    (fun _ _ _ _ h _ => h)
    (fun i A h => h.1.2.2.2.cell)
    ⟨⟨hb1, hb2, hb3, hb4⟩, hx0, fun i hi => by omega⟩ ?round ?done (fun _ _ _ _ h _ => h.elim) ?panic
  case round =>
    rintro i W ⟨⟨h1, h2, h3, h4⟩, hx, hg⟩ hW hi
    simp only [slotV]
    gi_wp2
    have hxa : Ext W (W.alloc (.cells #[.int .i64 (i + 1), .int .i64 (twoF p (2 + 4 * i)), .int .i64 (twoF p (4 + 4 * i))] 90)) := (Ext.refl W).alloc _
    have hn5 : (W.alloc (.cells #[.int .i64 (i + 1), .int .i64 (twoF p (2 + 4 * i)), .int .i64 (twoF p (4 + 4 * i))] 90)).heap[W.heap.size]? = some (.cells #[.int .i64 (i + 1), .int .i64 (twoF p (2 + 4 * i)), .int .i64 (twoF p (4 + 4 * i))] 90 (0, 0)) := World.alloc_heap_new _ _
    refine ⟨hxa.block (by omega), hxa.block (by omega), ?_⟩
    intro W2 hu2 hs2
    have hw2 : ∀ A, Upd W2 0 A → True := fun _ _ => trivial
    replace hn5 := hu2.heap hn5 (by omega)
    replace h1 := hu2.heap (hxa.heap h1) (by omega)
    replace h2 := hu2.heap (hxa.heap h2) (by omega)
    replace h3 := hu2.heap (hxa.heap h3) (by omega)
    replace h4 := hu2.heap (hxa.heap h4) (by omega)
    replace hx := Upd.ext (hx.trans hxa) hu2 (by omega)
    clear hxa hw2
    have g0 : W2.cell? ⟨W.heap.size, 0, none⟩ = some (.int .i64 (i + 1)) := by simp [World.cell?, hn5]
    have g1 : W2.cell? ⟨W.heap.size, 1, none⟩ = some (.int .i64 (twoF p (2 + 4 * i))) := by simp [World.cell?, hn5]
    have g2 : W2.cell? ⟨W.heap.size, 2, none⟩ = some (.int .i64 (twoF p (4 + 4 * i))) := by simp [World.cell?, hn5]
    clear hn5 hu2 hs2
    generalize W.heap.size = c5 at *
    have hwi : IntKind.i64.wrap ((i : Int) + 1 - 1) = i := by rw [Int.add_sub_cancel]; exact IntWalk.i64_in _ ⟨by omega, by omega⟩
    have b1 := bt_lt p (2 + 4 * i)
    have b2 := bt_lt p (2 + 4 * i + 1)
    have b3 := bt_lt p (4 + 4 * i)
    have b4 := bt_lt p (4 + 4 * i + 1)
    have c1 : twoF p (2 + 4 * i) < 65536 := by unfold twoF; omega
    have c2 : twoF p (4 + 4 * i) < 65536 := by unfold twoF; omega
    clear b1 b2 b3 b4
    have c3 := topF_lt p hp i
    have hq : ∀ (w : World) (n : Nat), Calls Try.prog 35 #[.string p] (w.drewN n) fun e w'' => e = .returned (.int .i64 (twoF p 0)) ∧ ∃ m, w'' = w.drewN m := fun w n => quiet_n (count_any p _ (by omega) (by omega))
    have g3 := Boxed.cell h2
    have g4 := Boxed.cell h1
    have g5 := Boxed.cell h3
    have f3 := Boxed.frozen h2
    have f5 := Boxed.frozen h3
    by_cases hf : freeS p i
    · have et : topF p (i + 1) = topF p i := by simp [topF, hf]
      have el : lastS p (i + 1) = lastS p i := by simp [lastS, hf]
      have hg' : goodS p (i + 1) := goodS_succ hg (fun hb => hb.1 hf)
      have z1 := hf.1
      have z2 := hf.2
      rw [z1] at g1
      rw [z2] at g2
      gi_wp2
      exact ⟨rfl, rfl, ⟨h1, by rw [et]; exact h2, by rw [el]; exact h3, h4⟩, hx, hg'⟩
    · have hnf := hf
      unfold freeS at hnf
      have hbad : (twoF p (4 + 4 * i) = 0 ∨ twoF p (2 + 4 * i) + twoF p (4 + 4 * i) ≠ topF p i ∨ twoF p (2 + 4 * i) < 2 + 4 * twoF p 0) → badS p (topF p i) i := fun h => ⟨hf, h⟩
      have hgood : ¬ (twoF p (4 + 4 * i) = 0 ∨ twoF p (2 + 4 * i) + twoF p (4 + 4 * i) ≠ topF p i ∨ twoF p (2 + 4 * i) < 2 + 4 * twoF p 0) → goodS p (i + 1) := fun h => goodS_succ hg (fun hb => h hb.2)
      have et : topF p (i + 1) = twoF p (2 + 4 * i) := by simp [topF, hf]
      have el : lastS p (i + 1) = i + 1 := by simp [lastS, hf]
      obtain ⟨off, hoff⟩ : ∃ off, twoF p (2 + 4 * i) = off := ⟨_, rfl⟩
      obtain ⟨len, hlen⟩ : ∃ len, twoF p (4 + 4 * i) = len := ⟨_, rfl⟩
      obtain ⟨top, htop⟩ : ∃ top, topF p i = top := ⟨_, rfl⟩
      rw [hoff] at g1 c1 hnf hbad hgood et
      rw [hlen] at g2 c2 hnf hbad hgood
      rw [htop] at g3 c3 hbad hgood
      have HT := Lib.hid htop
      have HE := Lib.hid et
      have HL := Lib.hid el
      clear hoff hlen htop et el
      by_cases hl0 : len = 0
      · have ho : ¬ off = 0 := fun h => hnf ⟨h, hl0⟩
        have hb := hbad (.inl hl0)
        have d1 : ((off : Int) = 0) = False := by simp; omega
        subst hl0
        clear hnf hbad hgood
        gi_wp2
        refine wpIn_round_quiet (by kernel_rfl) (by kernel_rfl) (by kernel_rfl) ?_
        repeat (go_big_quiet_step (fail))
        refine wpQuiet_nil ?_
        intro _ hw'
        obtain ⟨nq, rfl⟩ := hw'
        gi_wp2
        exact ⟨rfl, rfl, hx.drewN _, hg, by rw [HT.out]; exact hb, rfl⟩
      · have d2 : ((len : Int) == 0) = false := by simp; omega
        have d1 : ((len : Int) = 0) = False := by simp; omega
        by_cases ht : off + len = top
        · subst ht
          have hws : IntKind.i64.wrap (off : Int) = off := IntWalk.i64_in _ ⟨by omega, by omega⟩
          have hws2 : IntKind.i64.wrap (((off + len : Nat) : Int) - len) = off := by rw [Int.natCast_add, Int.add_sub_cancel]; exact hws
          by_cases hl : off < 2 + 4 * twoF p 0
          · have hb := hbad (.inr (.inr hl))
            clear hnf hbad hgood
            gi_wp2
            all_goals (
              refine wpIn_round_quiet (by kernel_rfl) (by kernel_rfl) (by kernel_rfl) ?_
              repeat (go_big_quiet_step ((go_at_call 35; exact hq _ _)))
              refine wpQuiet_nil ?_
              intro _ hw'
              obtain ⟨nq, rfl⟩ := hw'
              gi_wp2
              exact ⟨rfl, rfl, hx.drewN _, hg, by rw [HT.out]; exact hb, rfl⟩)
          · have hg' := hgood (by omega)
            clear hnf hbad hgood
            gi_wp2
            all_goals (
              refine wpIn_round_quiet (by kernel_rfl) (by kernel_rfl) (by kernel_rfl) ?_
              repeat (go_big_quiet_step ((go_at_call 35; exact hq _ _)))
              refine wpQuiet_nil ?_
              intro _ hw'
              obtain ⟨nq, rfl⟩ := hw'
              gi_wp2
              have n1 : ¬ c5 = w.heap.size + 1 := by omega
              have n2 : ¬ w.heap.size + 1 = c5 := by omega
              gi_region_with (fail)
              all_goals (
                gi_wp2
                have k1 : Boxed (W2.drewN (nq + 1)) w.heap.size 9 (.string p) := h1
                have k2 : Boxed (W2.drewN (nq + 1)) (w.heap.size + 1) 3 _ := h2
                have k3 : Boxed (W2.drewN (nq + 1)) (w.heap.size + 2) 3 _ := h3
                have k4 : Boxed (W2.drewN (nq + 1)) (w.heap.size + 3) 9 (.string p) := h4
                have kx : Ext w (W2.drewN (nq + 1)) := hx.drewN _
                have kb : ∀ k, k ≠ w.heap.size + 1 → k ≠ w.heap.size + 2 → (((W2.drewN (nq + 1)).setCell ⟨w.heap.size + 1, 0, none⟩ (.int .i64 off)).setCell ⟨w.heap.size + 2, 0, none⟩ (.int .i64 (i + 1))).heap[k]? = W2.heap[k]? := fun k e1 e2 =>
                  (Below.heap_setCell _ _ _ k (by simpa using e2)).trans (Below.heap_setCell _ _ _ k (by simpa using e1))
                refine ⟨kb _ (by omega) (by omega), kb _ (by omega) (by omega), ⟨(k1.other (by omega) _).other (by omega) _, ?_, ?_, (k4.other (by omega) _).other (by omega) _⟩, (kx.setCell (Nat.le_add_right _ 1) _).setCell (Nat.le_add_right _ 2) _, hg'⟩
                · rw [HE.out]; exact (k2.set _).other (by omega) _
                · rw [HL.out]; exact (k3.other (by omega) _).set _))
        · have hwt : IntKind.i64.wrap ((top : Int) - len) = top - len := IntWalk.i64_in _ ⟨by omega, by omega⟩
          have hb := hbad (.inr (.inl ht))
          clear hnf hbad hgood
          rcases Nat.eq_zero_or_pos off with h0 | h0
          · subst h0
            have d3 : ((0 : Int) != (top : Int) - len) = true := by simp; omega
            gi_wp2
            refine wpIn_round_quiet (by kernel_rfl) (by kernel_rfl) (by kernel_rfl) ?_
            repeat (go_big_quiet_step ((go_at_call 35; exact hq _ _)))
            refine wpQuiet_nil ?_
            intro _ hw'
            obtain ⟨nq, rfl⟩ := hw'
            gi_wp2
            exact ⟨rfl, rfl, hx.drewN _, hg, by rw [HT.out]; exact hb, rfl⟩
          · have d3 : ((off : Int) != (top : Int) - len) = true := by simp; omega
            have d5 : ((off : Int) = 0) = False := by simp; omega
            gi_wp2
            refine wpIn_round_quiet (by kernel_rfl) (by kernel_rfl) (by kernel_rfl) ?_
            repeat (go_big_quiet_step ((go_at_call 35; exact hq _ _)))
            refine wpQuiet_nil ?_
            intro _ hw'
            obtain ⟨nq, rfl⟩ := hw'
            gi_wp2
            exact ⟨rfl, rfl, hx.drewN _, hg, by rw [HT.out]; exact hb, rfl⟩
  case done =>
    rintro W ⟨⟨h1, h2, h3, h4⟩, hx, hg⟩ hD
    have hq : ∀ (w : World) (n : Nat), Calls Try.prog 35 #[.string p] (w.drewN n) fun e w'' => e = .returned (.int .i64 (twoF p 0)) ∧ ∃ m, w'' = w.drewN m := fun w n => quiet_n (count_any p _ (by omega) (by omega))
    have g3 := Boxed.cell h2
    have g4 := Boxed.cell h1
    have g5 := Boxed.cell h3
    have fin : ∀ n, Ext w ((W.drewN n).putObj w4.heap.size (.deferred none)) := fun n => Upd.ext (hx.drewN n) (grownBy_putObj' _ _ _) (by omega)
    have hn : twoF p 0 ≤ 1024 := by omega
    refine wpAt_of_wp ?_
    by_cases hlt : lastS p (twoF p 0) < twoF p 0
    · go_wp2
      go_quiet ((go_at_call 35; exact hq _ _))
      have hd : (lastS p (twoF p 0) : Int) < twoF p 0 := by omega
      have hwn : IntKind.i64.wrap ((twoF p 0 : Int) - 1) = twoF p 0 - 1 := IntWalk.i64_in _ ⟨by omega, by omega⟩
      go_wp2_with (go_at_call 35; refine (count_any p _ (by omega) (by omega)).mono ?_; rintro e w' ⟨rfl, n0, rfl⟩)
      refine ⟨by simp, .inl ⟨_, _, rfl, run_takeDeferred (by rw [← hsz]; exact hD), ?_⟩⟩
      rw [← hsz]
      refine ⟨fin _, .inr (.inr ⟨hg, hlt, ?_⟩)⟩
      have e : ((2 + 4 * (twoF p 0 - 1) : Nat) : Int) = 2 + 4 * ((twoF p 0 : Int) - 1) := by omega
      unfold wrongV
      rw [e]
    · have hd : ¬ (lastS p (twoF p 0) : Int) < twoF p 0 := by omega
      go_wp2
      go_quiet ((go_at_call 35; exact hq _ _))
      go_wp2
      refine ⟨by simp, .inl ⟨_, _, rfl, run_takeDeferred (by rw [← hsz]; exact hD), ?_⟩⟩
      rw [← hsz]
      refine ⟨_, results_tmp rfl _ _ _, fin _, .inl ⟨rfl, hg, ?_⟩⟩
      have := lastS_le p (twoF p 0)
      omega
  case panic =>
    rintro i ch W hi ⟨hx, hg, hb, rfl⟩ hD
    refine ⟨by simp, .inl ⟨_, _, rfl, run_takeDeferred hD, ?_⟩⟩
    exact ⟨Upd.ext hx (grownBy_putObj' _ _ _) (by omega), .inr (.inl ⟨i, hi, hg, hb, rfl⟩)⟩
end Go.Proofs.Ytnileonlabpbpaa
