/- Wrong (merged by group.py) -/
import Derived.Test.YtcbainmpikcfjaaQ02
import Derived.Recover
import Derived.Laws.Pointers
import Derived.Deep.RegionLaw
namespace Go.Proofs.Ytcbainmpikcfjaa
section
open Go.RowKit
set_option linter.unusedVariables false
set_option maxRecDepth 20000

theorem least_of {Q : Nat → Prop} (h : ∃ n, Q n) : ∃ n, Q n ∧ ∀ j, j < n → ¬ Q j := by
  obtain ⟨n, hn⟩ := h
  induction n using Nat.strongRecOn with
  | _ n ih =>
    by_cases hc : ∃ j, j < n ∧ Q j
    · obtain ⟨j, hj, hq⟩ := hc
      exact ih j hj hq
    · exact ⟨n, hn, fun j hj hq => hc ⟨j, hj, hq⟩⟩
/-- the head of a page is right -/
def headR (p : ByteArray) : Prop := sizeB p.size = true ∧ twoF p 0 ≤ 200 ∧ 2 + 4 * twoF p 0 ≤ p.size
/-- what Wrong tells -/
def WrongR (p : ByteArray) (a e : Nat) : Prop :=
  (sizeB p.size = false ∧ a = 0 ∧ e = 11) ∨
  (sizeB p.size = true ∧ ¬ (twoF p 0 ≤ 200 ∧ 2 + 4 * twoF p 0 ≤ p.size) ∧ a = 0 ∧ e = 12) ∨
  (headR p ∧ (∃ k, k < twoF p 0 ∧ goodS p k ∧ badS p (topF p k) k ∧ a = 2 + 4 * k) ∧ e = 12) ∨
  (headR p ∧ goodS p (twoF p 0) ∧ lastS p (twoF p 0) < twoF p 0 ∧ a = 2 + 4 * (twoF p 0 - 1) ∧ e = 12) ∨
  (headR p ∧ goodS p (twoF p 0) ∧ lastS p (twoF p 0) = twoF p 0 ∧ (∃ i, 2 + 4 * twoF p 0 ≤ i ∧ i < topF p (twoF p 0) ∧ (∀ j, 2 + 4 * twoF p 0 ≤ j → j < i → bt p j = 0) ∧ bt p i ≠ 0 ∧ a = i) ∧ e = 12) ∨
  (headR p ∧ goodS p (twoF p 0) ∧ lastS p (twoF p 0) = twoF p 0 ∧ (∀ j, 2 + 4 * twoF p 0 ≤ j → j < topF p (twoF p 0) → bt p j = 0) ∧ a = p.size ∧ e = 0)

theorem assert_is (v : Value) (w : World) : (Instr.typeAssert (.iface 119 v) 20 119 true).run Try.prog w = .ok (.tuple #[v, .bool true]) w := by kernel_rfl
theorem assert_nil (w : World) : (Instr.typeAssert .nilIface 20 119 true).run Try.prog w = .ok (.tuple #[.agg #[.int .i64 0, .int .i64 0], .bool false]) w := by kernel_rfl
theorem catch_panicking (c : Nat) (x y : Int) (a_ : Nat) (e_ : Int) (older : List PanicEntry) (w : World) (h1 : Boxed w c 3 (.int .i64 x)) (h2 : Boxed w (c + 1) 24 (.int .i64 y)) :
    CallsD Try.prog 70 #[.pointer (some ⟨c, 0, none⟩), .pointer (some ⟨c + 1, 0, none⟩)] (.panicking ({ v := wrongV a_ e_, recovered := false } :: older)) w fun e u' w' =>
      e = .returned (.tuple #[]) ∧ u' = .panicking ({ v := wrongV a_ e_, recovered := true } :: older) ∧ Boxed w' c 3 (.int .i64 a_) ∧ Boxed w' (c + 1) 24 (.int .i64 e_) ∧ Below c w w' := by
  refine callsD_of_wpS Try.func70 rfl fun c₀ cs hu => ?_
  simp only [Try.ntmps70, List.size_toArray, List.length_cons, List.length_nil, Nat.reduceAdd, Nat.reduceSub, Array.replicate_succ, Array.replicate_zero, List.push_toArray, List.append_toArray, List.nil_append, List.cons_append]
  apply wpS_seq
  apply wpS_region
  simp [wpOpsS, go_sem, recoverD, hu, wrongV, Exit.thenS, assert_is]
  refine wpS_of_wp ?_
  go_wp2
  have hlt := h2.lt
  have k1 := h1.alloc (.cells #[.int .i64 a_, .int .i64 e_] 119)
  have k2 := h2.alloc (.cells #[.int .i64 a_, .int .i64 e_] 119)
  have hn : (w.alloc (.cells #[.int .i64 a_, .int .i64 e_] 119)).heap[w.heap.size]? = some (.cells #[.int .i64 a_, .int .i64 e_] 119 (0, 0)) := World.alloc_heap_new _ _
  have hx : Below c w (w.alloc (.cells #[.int .i64 a_, .int .i64 e_] 119)) := (Below.refl c w).alloc (by omega) _
  generalize w.alloc (.cells #[.int .i64 a_, .int .i64 e_] 119) = w1 at *
  have g0 : w1.cell? ⟨w.heap.size, 0, none⟩ = some (.int .i64 a_) := by simp [World.cell?, hn]
  have g1 : w1.cell? ⟨w.heap.size, 1, none⟩ = some (.int .i64 e_) := by simp [World.cell?, hn]
  clear hn
  have n1 : ¬ w.heap.size = c := by omega
  have n2 : ¬ c = w.heap.size := by omega
  have q1 := k1.cell
  have q2 := k2.cell
  have f1 := k1.frozen
  have f2 := k2.frozen
  clear h1 h2
  generalize w.heap.size = d at *
  go_region_law (fail)
  all_goals (
    have j1 : Boxed (w1.drew) c 3 _ := k1
    have j2 : Boxed (w1.drew) (c + 1) 24 _ := k2
    refine ⟨rfl, _, rfl, _, results_none rfl _ _ _, rfl, rfl, ?_, ?_, ?_⟩
    · exact (j1.set _).other (by omega) _
    · exact (j2.other (by omega) _).set _
    · exact (hx.drew.setCell (Nat.le_refl _) _).setCell (Nat.le_succ _) _)
theorem catch_idle (c : Nat) (w : World) :
    CallsD Try.prog 70 #[.pointer (some ⟨c, 0, none⟩), .pointer (some ⟨c + 1, 0, none⟩)] .returning w fun e u' w' => e = .returned (.tuple #[]) ∧ u' = .returning ∧ Ext w w' := by
  refine callsD_of_wpS Try.func70 rfl fun c₀ cs hu => ?_
  simp only [Try.ntmps70, List.size_toArray, List.length_cons, List.length_nil, Nat.reduceAdd, Nat.reduceSub, Array.replicate_succ, Array.replicate_zero, List.push_toArray, List.append_toArray, List.nil_append, List.cons_append]
  apply wpS_seq
  apply wpS_region
  simp [wpOpsS, go_sem, recoverD, hu, Exit.thenS, assert_nil]
  refine wpS_of_wp ?_
  go_wp2
  cases c₀
  simp_all [bodyPostS, results, Try.results70]
  exact (Ext.refl w).alloc _

theorem good_bad {p : ByteArray} {k j : Nat} (hg : goodS p k) (hb : badS p (topF p k) k) (hg' : goodS p j) (hb' : badS p (topF p j) j) : k = j := by
  rcases Nat.lt_trichotomy k j with h | h | h
  · exact absurd hb (hg' k h)
  · exact h
  · exact absurd hb' (hg j h)
theorem entries_ok (p : ByteArray) (w : World) (h32 : 32 ≤ p.size) (hp : p.size ≤ 4096) (hN : 2 + 4 * twoF p 0 ≤ p.size) (hg : goodS p (twoF p 0)) (hl : lastS p (twoF p 0) = twoF p 0) :
    Calls Try.prog 72 #[.string p] w fun e w' => e = .returned (.int .i64 (topF p (twoF p 0))) ∧ Ext w w' :=
  (entries_any p w h32 hp hN).mono fun e w' ⟨hx, h⟩ => by
    rcases h with ⟨h1, _, _⟩ | ⟨k, hk, hg', hb, h1⟩ | ⟨_, h2, h1⟩
    · exact ⟨h1, hx⟩
    · exact absurd hb (hg k hk)
    · omega
theorem entries_bad (p : ByteArray) (w : World) (h32 : 32 ≤ p.size) (hp : p.size ≤ 4096) (hN : 2 + 4 * twoF p 0 ≤ p.size) (k : Nat) (hk : k < twoF p 0) (hg : goodS p k) (hb : badS p (topF p k) k) :
    Calls Try.prog 72 #[.string p] w fun e w' => e = .panicked [{ v := wrongV (2 + 4 * k) 12, recovered := false }] ∧ Ext w w' :=
  (entries_any p w h32 hp hN).mono fun e w' ⟨hx, h⟩ => by
    rcases h with ⟨_, h2, _⟩ | ⟨j, hj, hg', hb', h1⟩ | ⟨h2, _, _⟩
    · exact absurd hb (h2 k hk)
    · obtain rfl := good_bad hg hb hg' hb'
      exact ⟨h1, hx⟩
    · exact absurd hb (h2 k hk)
theorem entries_free (p : ByteArray) (w : World) (h32 : 32 ≤ p.size) (hp : p.size ≤ 4096) (hN : 2 + 4 * twoF p 0 ≤ p.size) (hg : goodS p (twoF p 0)) (hl : lastS p (twoF p 0) < twoF p 0) :
    Calls Try.prog 72 #[.string p] w fun e w' => e = .panicked [{ v := wrongV (2 + 4 * (twoF p 0 - 1)) 12, recovered := false }] ∧ Ext w w' :=
  (entries_any p w h32 hp hN).mono fun e w' ⟨hx, h⟩ => by
    rcases h with ⟨_, _, h2⟩ | ⟨j, hj, hg', hb', h1⟩ | ⟨_, _, h1⟩
    · omega
    · exact absurd hb' (hg j hj)
    · exact ⟨h1, hx⟩

theorem wrong_leaves (w W : World) (a : Act) (x y : Int) (a_ : Nat) (e_ : Int) (h1 : Boxed W w.heap.size 3 (.int .i64 x)) (h2 : Boxed W (w.heap.size + 1) 24 (.int .i64 y)) (hx : Ext w W)
    (ht2 : a.tmps.getD 2 undef = .pointer (some ⟨w.heap.size, 0, none⟩)) (ht3 : a.tmps.getD 3 undef = .pointer (some ⟨w.heap.size + 1, 0, none⟩))
    (hd : a.defers = [{ target := .fn (.func 70) #[.pointer (some ⟨w.heap.size, 0, none⟩), .pointer (some ⟨w.heap.size + 1, 0, none⟩)], args := #[] }]) :
    bodyPostD Try.prog Try.f61 (fun e w' => e = .returned (.tuple #[.int .i64 a_, .int .i64 e_]) ∧ Ext w w') (.panic [{ v := wrongV a_ e_, recovered := false }]) a W := by
  show Leaves _ _ a.tmps _ a.defers _ W
  rw [hd]
  refine leaves_cons (f := 70) (args := #[.pointer (some ⟨w.heap.size, 0, none⟩), .pointer (some ⟨w.heap.size + 1, 0, none⟩)]) (by simp) (by simp [go_sem]) ?_
  refine (catch_panicking w.heap.size x y a_ e_ [] W h1 h2).mono ?_
  rintro e u' w' ⟨rfl, rfl, k1, k2, hb⟩
  have c1 := k1.cell
  have c2 := k2.cell
  have hx' : Ext w w' := Below.trans hx hb
  simp [Leaves, settle, results, Try.results61, go_sem]
  simp at ht2 ht3
  simp [ht2, ht3, go_sem, c1, c2, hx']
theorem wrong_returns (w W : World) (a : Act) (a_ e_ : Int) (h1 : Boxed W w.heap.size 3 (.int .i64 a_)) (h2 : Boxed W (w.heap.size + 1) 24 (.int .i64 e_)) (hx : Ext w W)
    (ht2 : a.tmps.getD 2 undef = .pointer (some ⟨w.heap.size, 0, none⟩)) (ht3 : a.tmps.getD 3 undef = .pointer (some ⟨w.heap.size + 1, 0, none⟩))
    (hd : a.defers = [{ target := .fn (.func 70) #[.pointer (some ⟨w.heap.size, 0, none⟩), .pointer (some ⟨w.heap.size + 1, 0, none⟩)], args := #[] }]) :
    bodyPostD Try.prog Try.f61 (fun e w' => e = .returned (.tuple #[.int .i64 a_, .int .i64 e_]) ∧ Ext w w') .ret a W := by
  show Leaves _ _ a.tmps _ a.defers _ W
  rw [hd]
  refine leaves_cons (f := 70) (args := #[.pointer (some ⟨w.heap.size, 0, none⟩), .pointer (some ⟨w.heap.size + 1, 0, none⟩)]) (by simp) (by simp [go_sem]) ?_
  refine (catch_idle w.heap.size W).mono ?_
  rintro e u' w' ⟨rfl, rfl, hb⟩
  have c1 := hb.cell h1.cell
  have c2 := hb.cell h2.cell
  have hx' : Ext w w' := hx.trans hb
  simp [Leaves, settle, results, Try.results61, go_sem]
  simp at ht2 ht3
  simp [ht2, ht3, go_sem, c1, c2, hx']

theorem wrong_size (p : ByteArray) (w : World) (hp : p.size ≤ 140737488355328) (hs : sizeB p.size = false) :
    Calls Try.prog 61 #[.string p] w fun e w' => e = .returned (.tuple #[.int .i64 0, .int .i64 11]) ∧ Ext w w' := by
  have hmf : ∀ (fn : Fn) (first cap : Array Value) (w : World), (Instr.makeFunc fn first cap).run Try.prog w = .ok (.func fn first cap) w := fun _ _ _ _ => rfl
  go_enter_defers Try.func61, Try.ntmps61
  go_wp2_with (go_at_call 46; refine (size_any _ _ (by omega) (by omega)).mono ?_; rintro e w1 ⟨rfl, rfl⟩; rw [hs])
  exact wrong_leaves w _ _ 0 0 0 11 (Boxed.new w 3 _ |>.alloc _) (by have := Boxed.new (w.alloc (.cells #[.int .i64 0] 3)) 24 (.int .i64 0); rw [World.size_alloc] at this; exact this) (((Ext.refl w).alloc _).alloc _) rfl rfl rfl

theorem wrong_head (p : ByteArray) (w : World) (hs : sizeB p.size = true) (hn : ¬ (twoF p 0 ≤ 200 ∧ 2 + 4 * twoF p 0 ≤ p.size)) :
    Calls Try.prog 61 #[.string p] w fun e w' => e = .returned (.tuple #[.int .i64 0, .int .i64 12]) ∧ Ext w w' := by
  have hmf : ∀ (fn : Fn) (first cap : Array Value) (w : World), (Instr.makeFunc fn first cap).run Try.prog w = .ok (.func fn first cap) w := fun _ _ _ _ => rfl
  have hz : 32 ≤ p.size ∧ p.size ≤ 4096 := by simp [sizeB] at hs; omega
  obtain ⟨z1, z2⟩ := hz
  go_enter_defers Try.func61, Try.ntmps61
  go_wp2_with (go_at_call 46; refine (size_any _ _ (by omega) (by omega)).mono ?_; rintro e w1 ⟨rfl, rfl⟩; rw [hs])
  have hb1 := (Boxed.new w 3 (.int .i64 0)).alloc (.cells #[.int .i64 0] 24)
  have hb2 := Boxed.new (w.alloc (.cells #[.int .i64 0] 3)) 24 (.int .i64 0)
  rw [World.size_alloc] at hb2
  have hx0 : Ext w ((w.alloc (.cells #[.int .i64 0] 3)).alloc (.cells #[.int .i64 0] 24)) := ((Ext.refl w).alloc _).alloc _
  generalize (w.alloc (.cells #[.int .i64 0] 3)).alloc (.cells #[.int .i64 0] 24) = W0 at *
  have hb : twoF p 0 < 65536 := by have := bt_lt p 0; have := bt_lt p (0 + 1); unfold twoF; omega
  by_cases h2 : 200 < twoF p 0
  · go_wp2_with (go_at_call 71; refine (count_any p _ (by omega) (by omega)).mono ?_; rintro e w1 ⟨rfl, n0, rfl⟩)
    exact wrong_leaves w _ _ 0 0 0 12 hb1 hb2 (hx0.drewN _) rfl rfl rfl
  · have h3 : (p.size : Int) < 2 + 4 * twoF p 0 := by omega
    go_wp2_with (go_at_call 71; refine (count_any p _ (by omega) (by omega)).mono ?_; rintro e w1 ⟨rfl, n0, rfl⟩)
    exact wrong_leaves w _ _ 0 0 0 12 hb1 hb2 (hx0.drewN _) rfl rfl rfl

theorem wrong_slot (p : ByteArray) (w : World) (hh : headR p) (a_ : Nat)
    (he : ∀ w, Calls Try.prog 72 #[.string p] w fun e w' => e = .panicked [{ v := wrongV a_ 12, recovered := false }] ∧ Ext w w') :
    Calls Try.prog 61 #[.string p] w fun e w' => e = .returned (.tuple #[.int .i64 a_, .int .i64 12]) ∧ Ext w w' := by
  obtain ⟨hs, hn2, hN⟩ := hh
  have hmf : ∀ (fn : Fn) (first cap : Array Value) (w : World), (Instr.makeFunc fn first cap).run Try.prog w = .ok (.func fn first cap) w := fun _ _ _ _ => rfl
  have hz : 32 ≤ p.size ∧ p.size ≤ 4096 := by simp [sizeB] at hs; omega
  obtain ⟨z1, z2⟩ := hz
  go_enter_defers Try.func61, Try.ntmps61
  go_wp2_with (go_at_call 46; refine (size_any _ _ (by omega) (by omega)).mono ?_; rintro e w1 ⟨rfl, rfl⟩; rw [hs])
  have hb1 := (Boxed.new w 3 (.int .i64 0)).alloc (.cells #[.int .i64 0] 24)
  have hb2 := Boxed.new (w.alloc (.cells #[.int .i64 0] 3)) 24 (.int .i64 0)
  rw [World.size_alloc] at hb2
  have hx0 : Ext w ((w.alloc (.cells #[.int .i64 0] 3)).alloc (.cells #[.int .i64 0] 24)) := ((Ext.refl w).alloc _).alloc _
  generalize (w.alloc (.cells #[.int .i64 0] 3)).alloc (.cells #[.int .i64 0] 24) = W0 at *
  have h3 : ¬ (p.size : Int) < 2 + 4 * twoF p 0 := by omega
  go_wp2_with (first
    | (go_at_call 71; refine (count_any p _ (by omega) (by omega)).mono ?_; rintro e w1 ⟨rfl, n0, rfl⟩)
    | (go_at_call 72; refine (he _).mono ?_; rintro e w2 ⟨rfl, hx2⟩))
  exact wrong_leaves w _ _ 0 0 a_ 12 (hx2.heap hb1) (hx2.heap hb2) ((hx0.drewN _).trans hx2) rfl rfl rfl

theorem topF_in (p : ByteArray) (hN : 2 + 4 * twoF p 0 ≤ p.size) (k : Nat) (hg : goodS p k) : 2 + 4 * twoF p 0 ≤ topF p k ∧ topF p k ≤ p.size := by
  induction k with
  | zero => simp [topF]; omega
  | succ k ih =>
    have ih := ih (fun i hi => hg i (by omega))
    have h := hg k (by omega)
    unfold topF
    split
    · exact ih
    · rename_i hf
      unfold badS at h
      have h' : ¬ (twoF p (4 + 4 * k) = 0 ∨ twoF p (2 + 4 * k) + twoF p (4 + 4 * k) ≠ topF p k ∨ twoF p (2 + 4 * k) < 2 + 4 * twoF p 0) := fun h'' => h ⟨hf, h''⟩
      omega

theorem wrong_byte (p : ByteArray) (w : World) (hh : headR p) (hg : goodS p (twoF p 0)) (hl : lastS p (twoF p 0) = twoF p 0) (i : Nat) (hi1 : 2 + 4 * twoF p 0 ≤ i) (hi2 : i < topF p (twoF p 0))
    (hz : ∀ j, 2 + 4 * twoF p 0 ≤ j → j < i → bt p j = 0) (hi3 : bt p i ≠ 0) :
    Calls Try.prog 61 #[.string p] w fun e w' => e = .returned (.tuple #[.int .i64 i, .int .i64 12]) ∧ Ext w w' := by
  obtain ⟨hs, hn2, hN⟩ := hh
  obtain ⟨t1, t2⟩ := topF_in p hN _ hg
  have hmf : ∀ (fn : Fn) (first cap : Array Value) (w : World), (Instr.makeFunc fn first cap).run Try.prog w = .ok (.func fn first cap) w := fun _ _ _ _ => rfl
  have hz' : 32 ≤ p.size ∧ p.size ≤ 4096 := by simp [sizeB] at hs; omega
  obtain ⟨z1, z2⟩ := hz'
  go_enter_defers Try.func61, Try.ntmps61
  go_wp2_with (go_at_call 46; refine (size_any _ _ (by omega) (by omega)).mono ?_; rintro e w1 ⟨rfl, rfl⟩; rw [hs])
  have hb1 := (Boxed.new w 3 (.int .i64 0)).alloc (.cells #[.int .i64 0] 24)
  have hb2 := Boxed.new (w.alloc (.cells #[.int .i64 0] 3)) 24 (.int .i64 0)
  rw [World.size_alloc] at hb2
  have hx0 : Ext w ((w.alloc (.cells #[.int .i64 0] 3)).alloc (.cells #[.int .i64 0] 24)) := ((Ext.refl w).alloc _).alloc _
  generalize (w.alloc (.cells #[.int .i64 0] 3)).alloc (.cells #[.int .i64 0] 24) = W0 at *
  have h3 : ¬ (p.size : Int) < 2 + 4 * twoF p 0 := by omega
  go_wp2_with (first
    | (go_at_call 71; refine (count_any p _ (by omega) (by omega)).mono ?_; rintro e w1 ⟨rfl, n0, rfl⟩)
    | (go_at_call 72; refine (entries_ok p _ z1 z2 hN hg hl).mono ?_; rintro e w2 ⟨rfl, hx2⟩))
  have k1 := hx2.heap hb1
  have k2 := hx2.heap hb2
  have kx := (hx0.drewN _).trans hx2
  go_loopw [5] (fun s wr => ∃ k : Nat, 2 + 4 * twoF p 0 ≤ k ∧ k ≤ i ∧ s = .int .i64 k ∧ wr = w2) (fun s _ => i - (intOf s).toNat)
  case atStart => exact ⟨2 + 4 * twoF p 0, by omega, by omega, by simp, rfl⟩
  case round =>
    obtain ⟨k, hk1, hk2, rfl, rfl⟩ := hrel
    have d1 : (k : Int) < topF p (twoF p 0) := by omega
    have d2 : (k : Int) < p.size := by omega
    by_cases hlt : k < i
    · have e1 : (((p[k]'(by omega)).toNat : Int) != 0) = false := by rw [get_bt, hz k hk1 hlt]; rfl
      go_wp2
      exact ⟨⟨k + 1, by omega, by omega, by go_num, trivial⟩, by simp [intOf]; omega⟩
    · obtain rfl : k = i := by omega
      have e1 : (((p[k]'(by omega)).toNat : Int) != 0) = true := by rw [get_bt]; simpa using hi3
      go_wp2
      exact wrong_leaves w _ _ 0 0 k 12 k1 k2 kx rfl rfl rfl

theorem wrong_ok (p : ByteArray) (w : World) (hh : headR p) (hg : goodS p (twoF p 0)) (hl : lastS p (twoF p 0) = twoF p 0)
    (hz : ∀ j, 2 + 4 * twoF p 0 ≤ j → j < topF p (twoF p 0) → bt p j = 0) :
    Calls Try.prog 61 #[.string p] w fun e w' => e = .returned (.tuple #[.int .i64 p.size, .int .i64 0]) ∧ Ext w w' := by
  obtain ⟨hs, hn2, hN⟩ := hh
  obtain ⟨t1, t2⟩ := topF_in p hN _ hg
  have hmf : ∀ (fn : Fn) (first cap : Array Value) (w : World), (Instr.makeFunc fn first cap).run Try.prog w = .ok (.func fn first cap) w := fun _ _ _ _ => rfl
  have hz' : 32 ≤ p.size ∧ p.size ≤ 4096 := by simp [sizeB] at hs; omega
  obtain ⟨z1, z2⟩ := hz'
  go_enter_defers Try.func61, Try.ntmps61
  go_wp2_with (go_at_call 46; refine (size_any _ _ (by omega) (by omega)).mono ?_; rintro e w1 ⟨rfl, rfl⟩; rw [hs])
  have hb1 := (Boxed.new w 3 (.int .i64 0)).alloc (.cells #[.int .i64 0] 24)
  have hb2 := Boxed.new (w.alloc (.cells #[.int .i64 0] 3)) 24 (.int .i64 0)
  rw [World.size_alloc] at hb2
  have hx0 : Ext w ((w.alloc (.cells #[.int .i64 0] 3)).alloc (.cells #[.int .i64 0] 24)) := ((Ext.refl w).alloc _).alloc _
  generalize (w.alloc (.cells #[.int .i64 0] 3)).alloc (.cells #[.int .i64 0] 24) = W0 at *
  have h3 : ¬ (p.size : Int) < 2 + 4 * twoF p 0 := by omega
  go_wp2_with (first
    | (go_at_call 71; refine (count_any p _ (by omega) (by omega)).mono ?_; rintro e w1 ⟨rfl, n0, rfl⟩)
    | (go_at_call 72; refine (entries_ok p _ z1 z2 hN hg hl).mono ?_; rintro e w2 ⟨rfl, hx2⟩))
  have k1 : Boxed w2 w.heap.size 3 (.int .i64 0) := hx2.heap hb1
  have k2 : Boxed w2 (w.heap.size + 1) 24 (.int .i64 0) := hx2.heap hb2
  have kx := (hx0.drewN _).trans hx2
  go_loopw [5] (fun s wr => ∃ k : Nat, 2 + 4 * twoF p 0 ≤ k ∧ k ≤ topF p (twoF p 0) ∧ s = .int .i64 k ∧ wr = w2) (fun s _ => topF p (twoF p 0) - (intOf s).toNat)
  case atStart => exact ⟨2 + 4 * twoF p 0, by omega, by omega, by simp, rfl⟩
  case round =>
    obtain ⟨k, hk1, hk2, rfl, rfl⟩ := hrel
    by_cases hlt : k < topF p (twoF p 0)
    · have d1 : (k : Int) < topF p (twoF p 0) := by omega
      have d2 : (k : Int) < p.size := by omega
      have e1 : (((p[k]'(by omega)).toNat : Int) != 0) = false := by rw [get_bt, hz k hk1 hlt]; rfl
      go_wp2
      exact ⟨⟨k + 1, by omega, by omega, by go_num, trivial⟩, by simp [intOf]; omega⟩
    · obtain rfl : k = topF p (twoF p 0) := by omega
      have q1 := k1.cell
      have q2 := k2.cell
      have f1 := k1.frozen
      have f2 := k2.frozen
      go_wp2
      exact wrong_returns w _ _ p.size 0 ((k1.set _).other (by omega) _) ((k2.other (by omega) _).set _) ((kx.setCell (Nat.le_refl _) _).setCell (Nat.le_succ _) _) rfl rfl rfl

theorem wrong_any (p : ByteArray) (w : World) (hp : p.size ≤ 140737488355328) :
    ∃ a e, WrongR p a e ∧ Calls Try.prog 61 #[.string p] w fun e' w' => e' = .returned (.tuple #[.int .i64 (a : Nat), .int .i64 (e : Nat)]) ∧ Ext w w' := by
  cases hs : sizeB p.size with
  | false => exact ⟨0, 11, .inl ⟨hs, rfl, rfl⟩, wrong_size p w hp hs⟩
  | true =>
    by_cases hn : twoF p 0 ≤ 200 ∧ 2 + 4 * twoF p 0 ≤ p.size
    · have hh : headR p := ⟨hs, hn.1, hn.2⟩
      have hz : 32 ≤ p.size ∧ p.size ≤ 4096 := by simp [sizeB] at hs; omega
      by_cases hg : goodS p (twoF p 0)
      · by_cases hl : lastS p (twoF p 0) = twoF p 0
        · by_cases hz0 : ∀ j, 2 + 4 * twoF p 0 ≤ j → j < topF p (twoF p 0) → bt p j = 0
          · exact ⟨p.size, 0, .inr (.inr (.inr (.inr (.inr ⟨hh, hg, hl, hz0, rfl, rfl⟩)))), wrong_ok p w hh hg hl hz0⟩
          · obtain ⟨i, ⟨h1, h2, h3⟩, hmin⟩ := least_of (Q := fun i => 2 + 4 * twoF p 0 ≤ i ∧ i < topF p (twoF p 0) ∧ bt p i ≠ 0) (by
              apply Classical.byContradiction
              intro hc
              exact hz0 fun j h1 h2 => Classical.byContradiction fun h3 => hc ⟨j, h1, h2, h3⟩)
            have hz1 : ∀ j, 2 + 4 * twoF p 0 ≤ j → j < i → bt p j = 0 := fun j g1 g2 => Classical.byContradiction fun g3 => hmin j g2 ⟨g1, by omega, g3⟩
            exact ⟨i, 12, .inr (.inr (.inr (.inr (.inl ⟨hh, hg, hl, ⟨i, h1, h2, hz1, h3, rfl⟩, rfl⟩)))), wrong_byte p w hh hg hl i h1 h2 hz1 h3⟩
        · have hl' : lastS p (twoF p 0) < twoF p 0 := by have := lastS_le p (twoF p 0); omega
          exact ⟨2 + 4 * (twoF p 0 - 1), 12, .inr (.inr (.inr (.inl ⟨hh, hg, hl', rfl, rfl⟩))), wrong_slot p w hh _ (fun w => entries_free p w hz.1 hz.2 hn.2 hg hl')⟩
      · obtain ⟨k, ⟨h1, h2⟩, hmin⟩ := least_of (Q := fun k => k < twoF p 0 ∧ badS p (topF p k) k) (by
          apply Classical.byContradiction
          intro hc
          exact hg fun j h1 h2 => hc ⟨j, h1, h2⟩)
        have hgk : goodS p k := fun j hj hb => hmin j hj ⟨by omega, hb⟩
        exact ⟨2 + 4 * k, 12, .inr (.inr (.inl ⟨hh, ⟨k, h1, hgk, h2, rfl⟩, rfl⟩)), wrong_slot p w hh _ (fun w => entries_bad p w hz.1 hz.2 hn.2 k h1 hgk h2)⟩
    · exact ⟨0, 12, .inr (.inl ⟨hs, hn, rfl, rfl⟩), wrong_head p w hs hn⟩
end
end Go.Proofs.Ytcbainmpikcfjaa
