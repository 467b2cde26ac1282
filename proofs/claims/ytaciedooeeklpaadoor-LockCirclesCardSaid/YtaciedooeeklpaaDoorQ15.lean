/- LmK; LmL (merged by group.py) -/
import Derived.Test.YtaciedooeeklpaaDoorQ14
namespace Go.Proofs.YtaciedooeeklpaaDoor
section
open Go.RowKit Go.Maps
set_option linter.unusedVariables false
set_option linter.unusedSimpArgs false
set_option linter.unusedSectionVars false
set_option maxRecDepth 100000
attribute [local go_sem] Oper.semAt_some

theorem ask_end (n : Nat) (W' : World) (tmps : Array Value) (x y z e : Value) (h4 : tmps.getD 8 undef = .pointer (some ⟨n, 0, none⟩)) (h9 : tmps.getD 9 undef = e) (q0 : W'.cell? ⟨n, 0, none⟩ = some x) (q1 : W'.cell? ⟨n, 1, none⟩ = some y) (q2 : W'.cell? ⟨n, 2, none⟩ = some z) :
    (results Tryd.f16 tmps).run Tryd.prog W' = .ok (.tuple #[.agg #[x, y, z], e]) W' := by
  have h4' : tmps[8]?.getD undef = .pointer (some ⟨n, 0, none⟩) := by simpa using h4
  have h9' : tmps[9]?.getD undef = e := by simpa using h9
  simp only [results, Tryd.results16]
  simp [Sem.run_bind, Result.andThen, h4', h9', go_sem, q0, q1, q2]
abbrev zeroAsk : Value := .agg #[.bool false, .slice none 0 0, .slice none 0 0]
/-- the box of the answer -/
theorem ask_box (w : World) : ∀ W4, Ext (w.alloc (.cells #[.bool false, .slice none 0 0, .slice none 0 0] 39)) W4 → BoxN W4 w.heap.size 39 #[.bool false, .slice none 0 0, .slice none 0 0] := fun W4 hx => (BoxN.new w 39 _).ext hx
theorem box_cells {W : World} {B : Nat} {t : TypeId} {x y z : Value} (h : BoxN W B t #[x, y, z]) : W.cell? ⟨B, 0, none⟩ = some x ∧ W.cell? ⟨B, 1, none⟩ = some y ∧ W.cell? ⟨B, 2, none⟩ = some z ∧ W.frozen? ⟨B, 0, none⟩ = false ∧ W.frozen? ⟨B, 1, none⟩ = false ∧ W.frozen? ⟨B, 2, none⟩ = false :=
  ⟨h.cell (i := 0) rfl, h.cell (i := 1) rfl, h.cell (i := 2) rfl, h.frozen 0, h.frozen 1, h.frozen 2⟩
set_option maxHeartbeats 2000000 in
theorem lask_bad1 (u m : Int) (n : ByteArray) (w : World) {F : Nat → Prop} {b : Nat} {v : Value} {S : LkSt} (h : LockS w F b v S) (hn : n.size ≤ 1000000) (hE : askedE u n ≠ 0) :
    Calls Tryd.prog 16 #[.pointer (some ⟨b + 2, 0, none⟩), .int .i64 u, .string n, .int .i64 m] w fun e w' => e = .returned (.tuple #[zeroAsk, .int .i64 (askedE u n)]) ∧ Ext w w' := by
  have hA := fun W => lasked_any (b + 2) u n W hn
  have hx1 : Ext w (w.alloc (.cells #[.bool false, .slice none 0 0, .slice none 0 0] 39)) := (Ext.refl w).alloc _
  have HB := Lib.hid (ask_box w)
  have e1 : (askedE u n == 0) = false := by simpa using hE
  have e2 : (askedE u n != 0) = true := by simpa using hE
  generalize askedE u n = E at *
  clear h hE
  go_enter Tryd.func16, Tryd.ntmps16
  go_wp2_with (first
    | (go_at_call 35; refine (hA _).mono ?_; rintro e w2 ⟨rfl, hx2⟩; obtain ⟨c0, c1, c2, f0, f1, f2⟩ := box_cells (HB.out w2 hx2))
    | (refine ⟨trivial, ?_⟩) | (with_reducible refine And.intro (fun _ hf => (by cases hf)) ?_))
  have hb := box3_set (HB.out w2 hx2) (.bool false) (.slice none 0 0) (.slice none 0 0)
  refine bodyPost_ret (ask_end w.heap.size _ _ _ _ _ _ rfl rfl (hb.cell (i := 0) rfl) (hb.cell (i := 1) rfl) (hb.cell (i := 2) rfl)) rfl ?_
  exact ⟨rfl, ext_set3 (hx1.trans hx2) (Nat.le_refl _) _ _ _⟩
set_option maxHeartbeats 2000000 in
theorem lask_bad2 (u m : Int) (n : ByteArray) (w : World) {F : Nat → Prop} {b : Nat} {v : Value} {S : LkSt} (h : LockS w F b v S) (hn : n.size ≤ 1000000) (hE : askedE u n = 0) (hm : modeN m = false) :
    Calls Tryd.prog 16 #[.pointer (some ⟨b + 2, 0, none⟩), .int .i64 u, .string n, .int .i64 m] w fun e w' => e = .returned (.tuple #[zeroAsk, .int .i64 7]) ∧ Ext w w' := by
  have hA := fun W => lasked_any (b + 2) u n W hn
  have hM := fun W => lmode_any m W
  have hx1 : Ext w (w.alloc (.cells #[.bool false, .slice none 0 0, .slice none 0 0] 39)) := (Ext.refl w).alloc _
  have HB := Lib.hid (ask_box w)
  rw [hE] at hA
  rw [hm] at hM
  clear h hE hm
  go_enter Tryd.func16, Tryd.ntmps16
  go_wp2_with (first
    | (go_at_call 35; refine (hA _).mono ?_; rintro e w2 ⟨rfl, hx2⟩; obtain ⟨c0, c1, c2, f0, f1, f2⟩ := box_cells (HB.out w2 hx2))
    | (go_at_call 23; refine (hM _).mono ?_; rintro e w3 ⟨rfl, rfl⟩)
    | (refine ⟨trivial, ?_⟩) | (with_reducible refine And.intro (fun _ hf => (by cases hf)) ?_))
  have hb := box3_set (HB.out _ hx2) (.bool false) (.slice none 0 0) (.slice none 0 0)
  refine bodyPost_ret (ask_end w.heap.size _ _ _ _ _ _ rfl rfl (hb.cell (i := 0) rfl) (hb.cell (i := 1) rfl) (hb.cell (i := 2) rfl)) rfl ?_
  exact ⟨rfl, ext_set3 (hx1.trans hx2) (Nat.le_refl _) _ _ _⟩
set_option maxHeartbeats 2000000 in
theorem lask_bad3 (u m : Int) (n : ByteArray) (w : World) {F : Nat → Prop} {b : Nat} {v : Value} {S : LkSt} (h : LockS w F b v S) (hl : S.L.length ≤ 1000000) (hn : n.size ≤ 1000000) (hE : askedE u n = 0) (hm : modeN m = true) (hw : waitsB S.L u = true) :
    Calls Tryd.prog 16 #[.pointer (some ⟨b + 2, 0, none⟩), .int .i64 u, .string n, .int .i64 m] w fun e w' => e = .returned (.tuple #[zeroAsk, .int .i64 9]) ∧ Ext w w' := by
  have hA := fun W => lasked_any (b + 2) u n W hn
  have hM := fun W => lmode_any m W
  have hx1 : Ext w (w.alloc (.cells #[.bool false, .slice none 0 0, .slice none 0 0] 39)) := (Ext.refl w).alloc _
  have HB := Lib.hid (ask_box w)
  have hU := fun W (hx : Ext (w.alloc (.cells #[.bool false, .slice none 0 0, .slice none 0 0] 39)) W) => lbusy_any u W (h.ext (hx1.trans hx)) hl
  rw [hE] at hA
  rw [hm] at hM
  rw [if_pos hw] at hU
  clear h hE hm hw
  go_enter Tryd.func16, Tryd.ntmps16
  go_wp2_with (first
    | (go_at_call 35; refine (hA _).mono ?_; rintro e w2 ⟨rfl, hx2⟩)
    | (go_at_call 23; refine (hM _).mono ?_; rintro e w3 ⟨rfl, rfl⟩)
    | (go_at_call 36; refine (hU _ hx2).mono ?_; rintro e w4 ⟨rfl, hx4⟩; obtain ⟨c0, c1, c2, f0, f1, f2⟩ := box_cells (HB.out w4 (hx2.trans hx4)))
    | (refine ⟨trivial, ?_⟩) | (with_reducible refine And.intro (fun _ hf => (by cases hf)) ?_))
  have hb := box3_set (HB.out _ (hx2.trans hx4)) (.bool false) (.slice none 0 0) (.slice none 0 0)
  refine bodyPost_ret (ask_end w.heap.size _ _ _ _ _ _ rfl rfl (hb.cell (i := 0) rfl) (hb.cell (i := 1) rfl) (hb.cell (i := 2) rfl)) rfl ?_
  exact ⟨rfl, ext_set3 (hx1.trans (hx2.trans hx4)) (Nat.le_refl _) _ _ _⟩
set_option maxHeartbeats 2000000 in
theorem lask_has (u m k : Int) (n : ByteArray) (w : World) {F : Nat → Prop} {b : Nat} {v : Value} {S : LkSt} (h : LockS w F b v S) (hl : S.L.length ≤ 1000000) (hn : n.size ≤ 1000000) (hE : askedE u n = 0) (hm : modeN m = true) (hw : waitsB S.L u = false) (hok : OkP (u, n)) (hk : heldM S.H u n = some k) (hle : m ≤ k) :
    Calls Tryd.prog 16 #[.pointer (some ⟨b + 2, 0, none⟩), .int .i64 u, .string n, .int .i64 m] w fun e w' => e = .returned (.tuple #[.agg #[.bool true, .slice none 0 0, .slice none 0 0], .int .i64 0]) ∧ Ext w w' := by
  have hA := fun W => lasked_any (b + 2) u n W hn
  have hM := fun W => lmode_any m W
  have hx1 : Ext w (w.alloc (.cells #[.bool false, .slice none 0 0, .slice none 0 0] 39)) := (Ext.refl w).alloc _
  have HB := Lib.hid (ask_box w)
  have hU := fun W (hx : Ext (w.alloc (.cells #[.bool false, .slice none 0 0, .slice none 0 0] 39)) W) => lbusy_any u W (h.ext (hx1.trans hx)) hl
  rw [hE] at hA
  rw [hm] at hM
  rw [if_neg (by rw [hw]; simp)] at hU
  have hlook : ∀ W, Ext w W → (Instr.lookup 64 (.map (some b)) (.agg #[.int .i64 u, .string n]) true).run Tryd.prog W = .ok (.tuple #[.int .i64 k, .bool true]) W := fun W hx => by
    have := held_look (h.ext hx).held hok
    rw [hk] at this
    exact this
  have hbx : ∀ W, Ext w W → W.cell? ⟨b + 2, 0, none⟩ = some (.map (some b)) := fun W hx => (h.ext hx).box.cell (i := 0) rfl
  have hmk : decide (m ≤ k) = true := decide_eq_true hle
  have hmk2 : ¬ k < m := by omega
  clear h hE hm hw hk
  go_enter Tryd.func16, Tryd.ntmps16
  go_wp2_with (first
    | (go_at_call 35; refine (hA _).mono ?_; rintro e w2 ⟨rfl, hx2⟩)
    | (go_at_call 23; refine (hM _).mono ?_; rintro e w3 ⟨rfl, rfl⟩)
    | (go_at_call 36; refine (hU _ hx2).mono ?_; rintro e w4 ⟨rfl, hx4⟩)
    | (refine ⟨trivial, ?_⟩) | (with_reducible refine And.intro (fun _ hf => (by cases hf)) ?_))
  have hx5 : Ext w (w4.alloc (.cells #[.int .i64 u, .string n] 72)) := (hx1.trans (hx2.trans hx4)).alloc _
  have hlk := hlook _ hx5.drew
  have hbb := hbx _ hx5.drew
  obtain ⟨c0, c1, c2, f0, f1, f2⟩ := box_cells (HB.out _ ((hx2.trans hx4).alloc (.cells #[.int .i64 u, .string n] 72)))
  have p0 := (BoxN.new w4 72 #[.int .i64 u, .string n]).cell (i := 0) rfl
  have p1 := (BoxN.new w4 72 #[.int .i64 u, .string n]).cell (i := 1) rfl
  have HB5 := Lib.hid (HB.out _ ((hx2.trans hx4).alloc (.cells #[.int .i64 u, .string n] 72)).drew)
  have HX5 := Lib.hid hx5.drew
  clear hlook hbx
  apply wp_join
  case h =>
    intro K2 hQ
    go_region
    all_goals exact hQ
  go_wp2_with (fail)
  have hb := box3_set HB5.out (.bool true) (.slice none 0 0) (.slice none 0 0)
  refine bodyPost_ret (ask_end w.heap.size _ _ _ _ _ _ rfl rfl (hb.cell (i := 0) rfl) (hb.cell (i := 1) rfl) (hb.cell (i := 2) rfl)) rfl ?_
  exact ⟨rfl, ext_set3 HX5.out (Nat.le_refl _) _ _ _⟩
end
section
open Go.RowKit Go.Maps
set_option linter.unusedVariables false
set_option linter.unusedSimpArgs false
set_option linter.unusedSectionVars false
set_option maxRecDepth 100000
attribute [local go_sem] Oper.semAt_some

/-- what an asking tells, in memory -/
def AskV (w : World) (base : Nat) (a : AskR) (val : Value) : Prop := ∃ vv vg, val = .agg #[.bool a.1, vv, vg] ∧ OwnI w base vv a.2.1 ∧ OwnG csG 83 3 w base vg a.2.2
/-- the locks behind an act -/
def LkPost (w : World) (F : Nat → Prop) (b : Nat) (w' : World) (S : LkSt) : Prop := ∃ (F' : Nat → Prop) (v' : Value), LockS w' F' b v' S ∧ (∀ i, F' i → i < w'.heap.size) ∧ UpdF F w w' ∧ ∀ i, F' i → F i ∨ w.heap.size ≤ i
theorem set3_upd {F : Nat → Prop} {w W : World} (h : UpdF F w W) {B : Nat} (hb : w.heap.size ≤ B) (x' y' z' : Value) : UpdF F w (((W.setCell ⟨B, 0, none⟩ x').setCell ⟨B, 1, none⟩ y').setCell ⟨B, 2, none⟩ z') :=
  ((h.setCell (.inr hb) x').setCell (.inr hb) y').setCell (.inr hb) z'
theorem set3_one (W : World) (B : Nat) (x' y' z' : Value) : UpdF (fun i => i = B) W (((W.setCell ⟨B, 0, none⟩ x').setCell ⟨B, 1, none⟩ y').setCell ⟨B, 2, none⟩ z') :=
  (((UpdF.refl (fun i => i = B) W).setCell (p := ⟨B, 0, none⟩) (.inl rfl) x').setCell (p := ⟨B, 1, none⟩) (.inl rfl) y').setCell (p := ⟨B, 2, none⟩) (.inl rfl) z'
theorem size_set3 (W : World) (B : Nat) (x' y' z' : Value) : (((W.setCell ⟨B, 0, none⟩ x').setCell ⟨B, 1, none⟩ y').setCell ⟨B, 2, none⟩ z').heap.size = W.heap.size := by simp [World.setCell]
theorem LockS.more {w : World} {F G : Nat → Prop} {b : Nat} {v : Value} {S : LkSt} (h : LockS w F b v S) (hg : ∀ i, F i → G i) (hl : ∀ i, G i → b ≤ i) : LockS w G b v S :=
  ⟨h.box, h.held, h.noted, h.line, hg _ h.f0, hg _ h.f1, hg _ h.f2, fun g hv => hg _ (h.fl g hv), hl⟩
theorem chg_pos {L : LineL} (h : L.findIdx (fun e : Gr × Bool => !e.2) < L.length) : idxR (fun y : Rq => !y.2) L = (chgN L : Nat) := by
  unfold idxR chgN
  rw [if_pos h]
theorem chg_neg {L : LineL} (h : ¬ L.findIdx (fun e : Gr × Bool => !e.2) < L.length) : idxR (fun y : Rq => !y.2) L = -1 ∧ chgN L = L.length := by
  unfold idxR chgN
  rw [if_neg h]
  have := List.findIdx_le_length (p := fun e : Gr × Bool => !e.2) (xs := L)
  exact ⟨rfl, by omega⟩
theorem mode_pos {m : Int} (h : modeN m = true) : 1 ≤ m := by
  unfold modeN at h
  rw [decide_eq_true_eq] at h
  exact h.1
set_option maxHeartbeats 4000000 in
theorem lask_free_no (u m : Int) (n : ByteArray) (w : World) {F : Nat → Prop} {b : Nat} {v : Value} {S : LkSt} (h : LockS w F b v S) (hS : LkOk S) (hn : n.size ≤ 1000000) (hE : askedE u n = 0) (hm : modeN m = true) (hw : waitsB S.L u = false) (hok : OkP (u, n)) (hk : heldM S.H u n = none) (hlim : S.H.length < 1000)
    (hf : forL S.H (S.L.take S.L.length) (u, n, m) = []) :
    Calls Tryd.prog 16 #[.pointer (some ⟨b + 2, 0, none⟩), .int .i64 u, .string n, .int .i64 m] w fun e w' => e = .returned (.tuple #[.agg #[.bool true, .slice none 0 0, .slice none 0 0], .int .i64 0]) ∧ LockS w' F b v ⟨giveG S.H (u, n, m), S.L⟩ ∧ UpdF (fun i => i = b ∨ i = b + 1) w w' := by
  have hA := fun W => lasked_any (b + 2) u n W hn
  have hM := fun W => lmode_any m W
  have hx1 : Ext w (w.alloc (.cells #[.bool false, .slice none 0 0, .slice none 0 0] 39)) := (Ext.refl w).alloc _
  have HB := Lib.hid (ask_box w)
  have hU := fun W (hx : Ext (w.alloc (.cells #[.bool false, .slice none 0 0, .slice none 0 0] 39)) W) => lbusy_any u W (h.ext (hx1.trans hx)) (by have := hS.ln; omega)
  obtain ⟨P, cap, rfl, hsl⟩ := OwnG.slG elemR h.line (by have := hS.ln; omega)
  have hcap := hsl.cap
  have hle2 := hsl.le
  have hln := hS.ln
  have hmk : decide (m ≤ 0) = false := decide_eq_false (by have := mode_pos hm; omega)
  have hmk2 : (0 : Int) < m := by have := mode_pos hm; omega
  have hll : (S.H.length : Int) < 1000 := by omega
  have hGr : GrOk (u, n, m) := ⟨hm, hn⟩
  rw [hE] at hA
  have hMt := hM
  rw [hm] at hMt
  rw [if_neg (by rw [hw]; simp)] at hU
  have hlook : ∀ W, Ext w W → (Instr.lookup 64 (.map (some b)) (.agg #[.int .i64 u, .string n]) true).run Tryd.prog W = .ok (.tuple #[.int .i64 0, .bool false]) W := fun W hx => by
    have := held_look (h.ext hx).held hok
    rw [hk] at this
    exact this
  have hbx : ∀ W, Ext w W → W.cell? ⟨b + 2, 0, none⟩ = some (.map (some b)) ∧ W.cell? ⟨b + 2, 2, none⟩ = some (.slice P S.L.length cap) := fun W hx => ⟨(h.ext hx).box.cell (i := 0) rfl, (h.ext hx).box.cell (i := 2) rfl⟩
  have hFr := fun W (hx : Ext w W) => lfree_any ((u, n, m), false) S.L.length W (h.ext hx) hS (by omega) hGr
  rw [decide_eq_true hf] at hFr
  unfold Rq.v at hFr
  go_enter Tryd.func16, Tryd.ntmps16
  go_wp2_with (first
    | (go_at_call 35; refine (hA _).mono ?_; rintro e w2 ⟨rfl, hx2⟩)
    | (go_at_call 23; refine (hMt _).mono ?_; rintro e w3 ⟨rfl, rfl⟩)
    | (go_at_call 36; refine (hU _ hx2).mono ?_; rintro e w4 ⟨rfl, hx4⟩)
    | (refine ⟨trivial, ?_⟩) | (with_reducible refine And.intro (fun _ hf => (by cases hf)) ?_))
  have hx5 : Ext w (w4.alloc (.cells #[.int .i64 u, .string n] 72)) := (hx1.trans (hx2.trans hx4)).alloc _
  have hlk := hlook _ hx5.drew
  have hbb := (hbx _ hx5.drew).1
  have HB5 := Lib.hid (HB.out _ ((hx2.trans hx4).alloc (.cells #[.int .i64 u, .string n] 72)).drew)
  have HP := Lib.hid ((BoxN.new w4 72 #[.int .i64 u, .string n]).ext (Ext.refl _).drew)
  have HX5 := Lib.hid hx5.drew
  have p0 : (w4.alloc (.cells #[.int .i64 u, .string n] 72)).cell? ⟨w4.heap.size, 0, none⟩ = some (.int .i64 u) := (BoxN.new w4 72 #[.int .i64 u, .string n]).cell (i := 0) rfl
  have p1 : (w4.alloc (.cells #[.int .i64 u, .string n] 72)).cell? ⟨w4.heap.size, 1, none⟩ = some (.string n) := (BoxN.new w4 72 #[.int .i64 u, .string n]).cell (i := 1) rfl
  apply wp_join
  case h =>
    intro K2 hQ
    go_region
    all_goals exact hQ
  clear hlk hbb p0 p1 hlook hU hA hM hMt
  have hz5 : (w4.alloc (.cells #[.int .i64 u, .string n] 72)).drew.heap.size = w4.heap.size + 1 := by show (w4.alloc _).heap.size = _; rw [World.size_alloc]
  have hwz : w.heap.size < w4.heap.size := by
    have := (hx2.trans hx4).size
    rw [World.size_alloc] at this
    omega
  generalize (w4.alloc (.cells #[.int .i64 u, .string n] 72)).drew = w5 at *
  have hx6 : Ext w (w5.alloc (.cells #[.int .i64 u, .string n, .int .i64 m, .bool false] 75)) := HX5.out.alloc _
  have kq := (hbx w5 HX5.out)
  obtain ⟨kq0, kq2⟩ := kq
  have hCells : ∀ W, Ext (w5.alloc (.cells #[.int .i64 u, .string n, .int .i64 m, .bool false] 75)) W → W.cell? ⟨b + 2, 2, none⟩ = some (.slice P S.L.length cap) ∧ W.cell? ⟨w5.heap.size, 0, none⟩ = some (.int .i64 u) ∧ W.cell? ⟨w5.heap.size, 1, none⟩ = some (.string n) ∧ W.cell? ⟨w5.heap.size, 2, none⟩ = some (.int .i64 m) ∧ W.cell? ⟨w5.heap.size, 3, none⟩ = some (.bool false) ∧ W.cell? ⟨w4.heap.size, 0, none⟩ = some (.int .i64 u) ∧ W.cell? ⟨w4.heap.size, 1, none⟩ = some (.string n) := fun W hx =>
    let B := (BoxN.new w5 75 #[.int .i64 u, .string n, .int .i64 m, .bool false]).ext hx
    let Q := HP.out.ext ((Ext.refl w5).alloc (.cells #[.int .i64 u, .string n, .int .i64 m, .bool false] 75))
    ⟨(hbx W (hx6.trans hx)).2, B.cell (i := 0) rfl, B.cell (i := 1) rfl, B.cell (i := 2) rfl, B.cell (i := 3) rfl, (Q.ext hx).cell (i := 0) rfl, (Q.ext hx).cell (i := 1) rfl⟩
  have p0 : w5.cell? ⟨w4.heap.size, 0, none⟩ = some (.int .i64 u) := HP.out.cell (i := 0) rfl
  have p1 : w5.cell? ⟨w4.heap.size, 1, none⟩ = some (.string n) := HP.out.cell (i := 1) rfl
  obtain ⟨kq6, r0, r1, r2, r3, p60, p61⟩ := hCells _ (Ext.refl _)
  have HZ5 := Lib.hid hz5
  have HW5 := Lib.hid (show w.heap.size < w5.heap.size from by rw [hz5]; omega)
  clear hz5
  have HX6 := Lib.hid hx6
  have hl5 : ∀ ty, (Builtin.len_ #[64] ty #[.map (some b)]).run Tryd.prog w5 = .ok (.int .i64 S.H.length) w5 := fun ty => by
    have := (h.ext HX5.out).held.len Tryd.underlying64 ty
    unfold heldA at this
    rw [List.length_map] at this
    exact this
  have hB6 : ∀ W, Ext (w5.alloc (.cells #[.int .i64 u, .string n, .int .i64 m, .bool false] 75)) W → BoxN W w.heap.size 39 #[.bool false, .slice none 0 0, .slice none 0 0] := fun W hx => HB5.out.ext (((Ext.refl w5).alloc _).trans hx)
  have hGv := fun W (hx : Ext w W) => lgive_any (u, n, m) W (h.ext hx) hS hGr hok
  have hbw := h.box.lt
  have hHH := Lib.hid h
  clear h hbx hsl hf hk
  go_wp2_with (first
    | (go_at_call 39; refine (hFr _ hx6).mono ?_; rintro e w8 ⟨rfl, hx8⟩; obtain ⟨kq0, r0, r1, r2, r3, p0, p1⟩ := hCells w8 hx8)
    | (go_at_call 40; refine (hGv _ (HX6.out.trans hx8)).mono ?_; rintro e w9 ⟨rfl, hL9, hU9⟩; obtain ⟨c0, c1, c2, f0, f1, f2⟩ := box_cells ((hB6 _ hx8).upd hU9 (by have := HZ5.out; omega)))
    | (refine ⟨trivial, ?_⟩) | (with_reducible refine And.intro (fun _ hf => (by cases hf)) ?_))
  have hb := box3_set ((hB6 _ hx8).upd hU9 (by have := HZ5.out; omega)) (.bool true) (.slice none 0 0) (.slice none 0 0)
  refine bodyPost_ret (ask_end w.heap.size _ _ _ _ _ _ rfl rfl (hb.cell (i := 0) rfl) (hb.cell (i := 1) rfl) (hb.cell (i := 2) rfl)) rfl ?_
  have hU := (UpdF.of_ext (HX6.out.trans hx8) (fun i => i = b ∨ i = b + 1)).trans hU9
  refine ⟨rfl, ?_, set3_upd hU (Nat.le_refl _) _ _ _⟩
  have hs := set3_one w9 w.heap.size (.bool true) (.slice none 0 0) (.slice none 0 0)
  have h0 := hHH.out
  have hbl := h0.line.base_
  refine ⟨hL9.box.upd hs (by omega), hL9.held.updF hs (by omega), hL9.noted.updF hs (by omega), hL9.line.upd hs (fun g hg => ?_), hL9.f0, hL9.f1, hL9.f2, hL9.fl, hL9.low⟩
  have := (own_lt h0.line hg).2
  omega
set_option maxHeartbeats 4000000 in
theorem lask_free_in (u m : Int) (n : ByteArray) (w : World) {F : Nat → Prop} {b : Nat} {v : Value} {S : LkSt} (h : LockS w F b v S) (hS : LkOk S) (hn : n.size ≤ 1000000) (hE : askedE u n = 0) (hm : modeN m = true) (hw : waitsB S.L u = false) (hok : OkP (u, n)) (k : Int) (hk : heldM S.H u n = some k) (hle : ¬ m ≤ k) (hix : S.L.findIdx (fun e : Gr × Bool => !e.2) < S.L.length)
    (hf : forL S.H (S.L.take (chgN S.L)) (u, n, m) = []) :
    Calls Tryd.prog 16 #[.pointer (some ⟨b + 2, 0, none⟩), .int .i64 u, .string n, .int .i64 m] w fun e w' => e = .returned (.tuple #[.agg #[.bool true, .slice none 0 0, .slice none 0 0], .int .i64 0]) ∧ LockS w' F b v ⟨giveG S.H (u, n, m), S.L⟩ ∧ UpdF (fun i => i = b ∨ i = b + 1) w w' := by
  have hA := fun W => lasked_any (b + 2) u n W hn
  have hM := fun W => lmode_any m W
  have hx1 : Ext w (w.alloc (.cells #[.bool false, .slice none 0 0, .slice none 0 0] 39)) := (Ext.refl w).alloc _
  have HB := Lib.hid (ask_box w)
  have hU := fun W (hx : Ext (w.alloc (.cells #[.bool false, .slice none 0 0, .slice none 0 0] 39)) W) => lbusy_any u W (h.ext (hx1.trans hx)) (by have := hS.ln; omega)
  obtain ⟨P, cap, rfl, hsl⟩ := OwnG.slG elemR h.line (by have := hS.ln; omega)
  have hcap := hsl.cap
  have hle2 := hsl.le
  have hln := hS.ln
  have hmk : decide (m ≤ k) = false := decide_eq_false hle
  have hmk2 : k < m := by omega
  have hat : chgN S.L < S.L.length := hix
  have hci : ¬ ((chgN S.L : Nat) : Int) < 0 := by omega
  have hIx := fun W (hx : Ext w W) => idxask_any P cap S.L W (hsl.ext hx)
  rw [chg_pos hix] at hIx
  have hGr : GrOk (u, n, m) := ⟨hm, hn⟩
  rw [hE] at hA
  have hMt := hM
  rw [hm] at hMt
  rw [if_neg (by rw [hw]; simp)] at hU
  have hlook : ∀ W, Ext w W → (Instr.lookup 64 (.map (some b)) (.agg #[.int .i64 u, .string n]) true).run Tryd.prog W = .ok (.tuple #[.int .i64 k, .bool true]) W := fun W hx => by
    have := held_look (h.ext hx).held hok
    rw [hk] at this
    exact this
  have hbx : ∀ W, Ext w W → W.cell? ⟨b + 2, 0, none⟩ = some (.map (some b)) ∧ W.cell? ⟨b + 2, 2, none⟩ = some (.slice P S.L.length cap) := fun W hx => ⟨(h.ext hx).box.cell (i := 0) rfl, (h.ext hx).box.cell (i := 2) rfl⟩
  have hFr := fun W (hx : Ext w W) => lfree_any ((u, n, m), true) (chgN S.L) W (h.ext hx) hS (by omega) hGr
  rw [decide_eq_true hf] at hFr
  unfold Rq.v at hFr
  go_enter Tryd.func16, Tryd.ntmps16
  go_wp2_with (first
    | (go_at_call 35; refine (hA _).mono ?_; rintro e w2 ⟨rfl, hx2⟩)
    | (go_at_call 23; refine (hMt _).mono ?_; rintro e w3 ⟨rfl, rfl⟩)
    | (go_at_call 36; refine (hU _ hx2).mono ?_; rintro e w4 ⟨rfl, hx4⟩)
    | (refine ⟨trivial, ?_⟩) | (with_reducible refine And.intro (fun _ hf => (by cases hf)) ?_))
  have hx5 : Ext w (w4.alloc (.cells #[.int .i64 u, .string n] 72)) := (hx1.trans (hx2.trans hx4)).alloc _
  have hlk := hlook _ hx5.drew
  have hbb := (hbx _ hx5.drew).1
  have HB5 := Lib.hid (HB.out _ ((hx2.trans hx4).alloc (.cells #[.int .i64 u, .string n] 72)).drew)
  have HP := Lib.hid ((BoxN.new w4 72 #[.int .i64 u, .string n]).ext (Ext.refl _).drew)
  have HX5 := Lib.hid hx5.drew
  have p0 : (w4.alloc (.cells #[.int .i64 u, .string n] 72)).cell? ⟨w4.heap.size, 0, none⟩ = some (.int .i64 u) := (BoxN.new w4 72 #[.int .i64 u, .string n]).cell (i := 0) rfl
  have p1 : (w4.alloc (.cells #[.int .i64 u, .string n] 72)).cell? ⟨w4.heap.size, 1, none⟩ = some (.string n) := (BoxN.new w4 72 #[.int .i64 u, .string n]).cell (i := 1) rfl
  apply wp_join
  case h =>
    intro K2 hQ
    go_region
    all_goals exact hQ
  clear hlk hbb p0 p1 hlook hU hA hM hMt
  have hz5 : (w4.alloc (.cells #[.int .i64 u, .string n] 72)).drew.heap.size = w4.heap.size + 1 := by show (w4.alloc _).heap.size = _; rw [World.size_alloc]
  have hwz : w.heap.size < w4.heap.size := by
    have := (hx2.trans hx4).size
    rw [World.size_alloc] at this
    omega
  generalize (w4.alloc (.cells #[.int .i64 u, .string n] 72)).drew = w5 at *
  have hx6 : Ext w (w5.alloc (.cells #[.int .i64 u, .string n, .int .i64 m, .bool true] 75)) := HX5.out.alloc _
  have kq := (hbx w5 HX5.out)
  obtain ⟨kq0, kq2⟩ := kq
  have hCells : ∀ W, Ext (w5.alloc (.cells #[.int .i64 u, .string n, .int .i64 m, .bool true] 75)) W → W.cell? ⟨b + 2, 2, none⟩ = some (.slice P S.L.length cap) ∧ W.cell? ⟨w5.heap.size, 0, none⟩ = some (.int .i64 u) ∧ W.cell? ⟨w5.heap.size, 1, none⟩ = some (.string n) ∧ W.cell? ⟨w5.heap.size, 2, none⟩ = some (.int .i64 m) ∧ W.cell? ⟨w5.heap.size, 3, none⟩ = some (.bool true) ∧ W.cell? ⟨w4.heap.size, 0, none⟩ = some (.int .i64 u) ∧ W.cell? ⟨w4.heap.size, 1, none⟩ = some (.string n) := fun W hx =>
    let B := (BoxN.new w5 75 #[.int .i64 u, .string n, .int .i64 m, .bool true]).ext hx
    let Q := HP.out.ext ((Ext.refl w5).alloc (.cells #[.int .i64 u, .string n, .int .i64 m, .bool true] 75))
    ⟨(hbx W (hx6.trans hx)).2, B.cell (i := 0) rfl, B.cell (i := 1) rfl, B.cell (i := 2) rfl, B.cell (i := 3) rfl, (Q.ext hx).cell (i := 0) rfl, (Q.ext hx).cell (i := 1) rfl⟩
  have p0 : w5.cell? ⟨w4.heap.size, 0, none⟩ = some (.int .i64 u) := HP.out.cell (i := 0) rfl
  have p1 : w5.cell? ⟨w4.heap.size, 1, none⟩ = some (.string n) := HP.out.cell (i := 1) rfl
  obtain ⟨kq6, r0, r1, r2, r3, p60, p61⟩ := hCells _ (Ext.refl _)
  have HZ5 := Lib.hid hz5
  have HW5 := Lib.hid (show w.heap.size < w5.heap.size from by rw [hz5]; omega)
  clear hz5
  have HX6 := Lib.hid hx6
  have hB6 : ∀ W, Ext (w5.alloc (.cells #[.int .i64 u, .string n, .int .i64 m, .bool true] 75)) W → BoxN W w.heap.size 39 #[.bool false, .slice none 0 0, .slice none 0 0] := fun W hx => HB5.out.ext (((Ext.refl w5).alloc _).trans hx)
  have hGv := fun W (hx : Ext w W) => lgive_any (u, n, m) W (h.ext hx) hS hGr hok
  have hbw := h.box.lt
  have hHH := Lib.hid h
  clear h hbx hsl hf hk
  go_wp2_with (first
    | (go_at_call 37; refine (hIx _ hx6).mono ?_; rintro e w7 ⟨rfl, hx7⟩; obtain ⟨kq0, r0, r1, r2, r3, p0, p1⟩ := hCells w7 hx7)
    | (go_at_call 39; refine (hFr _ (hx6.trans hx7)).mono ?_; rintro e w8 ⟨rfl, hx8⟩; obtain ⟨kq0, r0, r1, r2, r3, p0, p1⟩ := hCells w8 (hx7.trans hx8))
    | (go_at_call 40; refine (hGv _ (HX6.out.trans (hx7.trans hx8))).mono ?_; rintro e w9 ⟨rfl, hL9, hU9⟩; obtain ⟨c0, c1, c2, f0, f1, f2⟩ := box_cells ((hB6 _ (hx7.trans hx8)).upd hU9 (by have := HZ5.out; omega)))
    | (refine ⟨trivial, ?_⟩) | (with_reducible refine And.intro (fun _ hf => (by cases hf)) ?_))
  have hb := box3_set ((hB6 _ (hx7.trans hx8)).upd hU9 (by have := HZ5.out; omega)) (.bool true) (.slice none 0 0) (.slice none 0 0)
  refine bodyPost_ret (ask_end w.heap.size _ _ _ _ _ _ rfl rfl (hb.cell (i := 0) rfl) (hb.cell (i := 1) rfl) (hb.cell (i := 2) rfl)) rfl ?_
  have hU := (UpdF.of_ext (HX6.out.trans (hx7.trans hx8)) (fun i => i = b ∨ i = b + 1)).trans hU9
  refine ⟨rfl, ?_, set3_upd hU (Nat.le_refl _) _ _ _⟩
  have hs := set3_one w9 w.heap.size (.bool true) (.slice none 0 0) (.slice none 0 0)
  have h0 := hHH.out
  have hbl := h0.line.base_
  refine ⟨hL9.box.upd hs (by omega), hL9.held.updF hs (by omega), hL9.noted.updF hs (by omega), hL9.line.upd hs (fun g hg => ?_), hL9.f0, hL9.f1, hL9.f2, hL9.fl, hL9.low⟩
  have := (own_lt h0.line hg).2
  omega
set_option maxHeartbeats 4000000 in
theorem lask_free_end (u m : Int) (n : ByteArray) (w : World) {F : Nat → Prop} {b : Nat} {v : Value} {S : LkSt} (h : LockS w F b v S) (hS : LkOk S) (hn : n.size ≤ 1000000) (hE : askedE u n = 0) (hm : modeN m = true) (hw : waitsB S.L u = false) (hok : OkP (u, n)) (k : Int) (hk : heldM S.H u n = some k) (hle : ¬ m ≤ k) (hix : ¬ S.L.findIdx (fun e : Gr × Bool => !e.2) < S.L.length)
    (hf : forL S.H (S.L.take S.L.length) (u, n, m) = []) :
    Calls Tryd.prog 16 #[.pointer (some ⟨b + 2, 0, none⟩), .int .i64 u, .string n, .int .i64 m] w fun e w' => e = .returned (.tuple #[.agg #[.bool true, .slice none 0 0, .slice none 0 0], .int .i64 0]) ∧ LockS w' F b v ⟨giveG S.H (u, n, m), S.L⟩ ∧ UpdF (fun i => i = b ∨ i = b + 1) w w' := by
  have hA := fun W => lasked_any (b + 2) u n W hn
  have hM := fun W => lmode_any m W
  have hx1 : Ext w (w.alloc (.cells #[.bool false, .slice none 0 0, .slice none 0 0] 39)) := (Ext.refl w).alloc _
  have HB := Lib.hid (ask_box w)
  have hU := fun W (hx : Ext (w.alloc (.cells #[.bool false, .slice none 0 0, .slice none 0 0] 39)) W) => lbusy_any u W (h.ext (hx1.trans hx)) (by have := hS.ln; omega)
  obtain ⟨P, cap, rfl, hsl⟩ := OwnG.slG elemR h.line (by have := hS.ln; omega)
  have hcap := hsl.cap
  have hle2 := hsl.le
  have hln := hS.ln
  have hmk : decide (m ≤ k) = false := decide_eq_false hle
  have hmk2 : k < m := by omega
  have hIx := fun W (hx : Ext w W) => idxask_any P cap S.L W (hsl.ext hx)
  rw [(chg_neg hix).1] at hIx
  have hGr : GrOk (u, n, m) := ⟨hm, hn⟩
  rw [hE] at hA
  have hMt := hM
  rw [hm] at hMt
  rw [if_neg (by rw [hw]; simp)] at hU
  have hlook : ∀ W, Ext w W → (Instr.lookup 64 (.map (some b)) (.agg #[.int .i64 u, .string n]) true).run Tryd.prog W = .ok (.tuple #[.int .i64 k, .bool true]) W := fun W hx => by
    have := held_look (h.ext hx).held hok
    rw [hk] at this
    exact this
  have hbx : ∀ W, Ext w W → W.cell? ⟨b + 2, 0, none⟩ = some (.map (some b)) ∧ W.cell? ⟨b + 2, 2, none⟩ = some (.slice P S.L.length cap) := fun W hx => ⟨(h.ext hx).box.cell (i := 0) rfl, (h.ext hx).box.cell (i := 2) rfl⟩
  have hFr := fun W (hx : Ext w W) => lfree_any ((u, n, m), true) S.L.length W (h.ext hx) hS (by omega) hGr
  rw [decide_eq_true hf] at hFr
  unfold Rq.v at hFr
  go_enter Tryd.func16, Tryd.ntmps16
  go_wp2_with (first
    | (go_at_call 35; refine (hA _).mono ?_; rintro e w2 ⟨rfl, hx2⟩)
    | (go_at_call 23; refine (hMt _).mono ?_; rintro e w3 ⟨rfl, rfl⟩)
    | (go_at_call 36; refine (hU _ hx2).mono ?_; rintro e w4 ⟨rfl, hx4⟩)
    | (refine ⟨trivial, ?_⟩) | (with_reducible refine And.intro (fun _ hf => (by cases hf)) ?_))
  have hx5 : Ext w (w4.alloc (.cells #[.int .i64 u, .string n] 72)) := (hx1.trans (hx2.trans hx4)).alloc _
  have hlk := hlook _ hx5.drew
  have hbb := (hbx _ hx5.drew).1
  have HB5 := Lib.hid (HB.out _ ((hx2.trans hx4).alloc (.cells #[.int .i64 u, .string n] 72)).drew)
  have HP := Lib.hid ((BoxN.new w4 72 #[.int .i64 u, .string n]).ext (Ext.refl _).drew)
  have HX5 := Lib.hid hx5.drew
  have p0 : (w4.alloc (.cells #[.int .i64 u, .string n] 72)).cell? ⟨w4.heap.size, 0, none⟩ = some (.int .i64 u) := (BoxN.new w4 72 #[.int .i64 u, .string n]).cell (i := 0) rfl
  have p1 : (w4.alloc (.cells #[.int .i64 u, .string n] 72)).cell? ⟨w4.heap.size, 1, none⟩ = some (.string n) := (BoxN.new w4 72 #[.int .i64 u, .string n]).cell (i := 1) rfl
  apply wp_join
  case h =>
    intro K2 hQ
    go_region
    all_goals exact hQ
  clear hlk hbb p0 p1 hlook hU hA hM hMt
  have hz5 : (w4.alloc (.cells #[.int .i64 u, .string n] 72)).drew.heap.size = w4.heap.size + 1 := by show (w4.alloc _).heap.size = _; rw [World.size_alloc]
  have hwz : w.heap.size < w4.heap.size := by
    have := (hx2.trans hx4).size
    rw [World.size_alloc] at this
    omega
  generalize (w4.alloc (.cells #[.int .i64 u, .string n] 72)).drew = w5 at *
  have hx6 : Ext w (w5.alloc (.cells #[.int .i64 u, .string n, .int .i64 m, .bool true] 75)) := HX5.out.alloc _
  have kq := (hbx w5 HX5.out)
  obtain ⟨kq0, kq2⟩ := kq
  have hCells : ∀ W, Ext (w5.alloc (.cells #[.int .i64 u, .string n, .int .i64 m, .bool true] 75)) W → W.cell? ⟨b + 2, 2, none⟩ = some (.slice P S.L.length cap) ∧ W.cell? ⟨w5.heap.size, 0, none⟩ = some (.int .i64 u) ∧ W.cell? ⟨w5.heap.size, 1, none⟩ = some (.string n) ∧ W.cell? ⟨w5.heap.size, 2, none⟩ = some (.int .i64 m) ∧ W.cell? ⟨w5.heap.size, 3, none⟩ = some (.bool true) ∧ W.cell? ⟨w4.heap.size, 0, none⟩ = some (.int .i64 u) ∧ W.cell? ⟨w4.heap.size, 1, none⟩ = some (.string n) := fun W hx =>
    let B := (BoxN.new w5 75 #[.int .i64 u, .string n, .int .i64 m, .bool true]).ext hx
    let Q := HP.out.ext ((Ext.refl w5).alloc (.cells #[.int .i64 u, .string n, .int .i64 m, .bool true] 75))
    ⟨(hbx W (hx6.trans hx)).2, B.cell (i := 0) rfl, B.cell (i := 1) rfl, B.cell (i := 2) rfl, B.cell (i := 3) rfl, (Q.ext hx).cell (i := 0) rfl, (Q.ext hx).cell (i := 1) rfl⟩
  have p0 : w5.cell? ⟨w4.heap.size, 0, none⟩ = some (.int .i64 u) := HP.out.cell (i := 0) rfl
  have p1 : w5.cell? ⟨w4.heap.size, 1, none⟩ = some (.string n) := HP.out.cell (i := 1) rfl
  obtain ⟨kq6, r0, r1, r2, r3, p60, p61⟩ := hCells _ (Ext.refl _)
  have HZ5 := Lib.hid hz5
  have HW5 := Lib.hid (show w.heap.size < w5.heap.size from by rw [hz5]; omega)
  clear hz5
  have HX6 := Lib.hid hx6
  have hB6 : ∀ W, Ext (w5.alloc (.cells #[.int .i64 u, .string n, .int .i64 m, .bool true] 75)) W → BoxN W w.heap.size 39 #[.bool false, .slice none 0 0, .slice none 0 0] := fun W hx => HB5.out.ext (((Ext.refl w5).alloc _).trans hx)
  have hGv := fun W (hx : Ext w W) => lgive_any (u, n, m) W (h.ext hx) hS hGr hok
  have hbw := h.box.lt
  have hHH := Lib.hid h
  clear h hbx hsl hf hk
  go_wp2_with (first
    | (go_at_call 37; refine (hIx _ hx6).mono ?_; rintro e w7 ⟨rfl, hx7⟩; obtain ⟨kq0, r0, r1, r2, r3, p0, p1⟩ := hCells w7 hx7)
    | (go_at_call 39; refine (hFr _ (hx6.trans hx7)).mono ?_; rintro e w8 ⟨rfl, hx8⟩; obtain ⟨kq0, r0, r1, r2, r3, p0, p1⟩ := hCells w8 (hx7.trans hx8))
    | (go_at_call 40; refine (hGv _ (HX6.out.trans (hx7.trans hx8))).mono ?_; rintro e w9 ⟨rfl, hL9, hU9⟩; obtain ⟨c0, c1, c2, f0, f1, f2⟩ := box_cells ((hB6 _ (hx7.trans hx8)).upd hU9 (by have := HZ5.out; omega)))
    | (refine ⟨trivial, ?_⟩) | (with_reducible refine And.intro (fun _ hf => (by cases hf)) ?_))
  have hb := box3_set ((hB6 _ (hx7.trans hx8)).upd hU9 (by have := HZ5.out; omega)) (.bool true) (.slice none 0 0) (.slice none 0 0)
  refine bodyPost_ret (ask_end w.heap.size _ _ _ _ _ _ rfl rfl (hb.cell (i := 0) rfl) (hb.cell (i := 1) rfl) (hb.cell (i := 2) rfl)) rfl ?_
  have hU := (UpdF.of_ext (HX6.out.trans (hx7.trans hx8)) (fun i => i = b ∨ i = b + 1)).trans hU9
  refine ⟨rfl, ?_, set3_upd hU (Nat.le_refl _) _ _ _⟩
  have hs := set3_one w9 w.heap.size (.bool true) (.slice none 0 0) (.slice none 0 0)
  have h0 := hHH.out
  have hbl := h0.line.base_
  refine ⟨hL9.box.upd hs (by omega), hL9.held.updF hs (by omega), hL9.noted.updF hs (by omega), hL9.line.upd hs (fun g hg => ?_), hL9.f0, hL9.f1, hL9.f2, hL9.fl, hL9.low⟩
  have := (own_lt h0.line hg).2
  omega
end
end Go.Proofs.YtaciedooeeklpaaDoor
