/- LmM; LmN (merged by group.py) -/
import Derived.Test.YtaciedooeeklpaaDoorQ15
namespace Go.Proofs.YtaciedooeeklpaaDoor
section
open Go.RowKit Go.Maps
set_option linter.unusedVariables false
set_option linter.unusedSimpArgs false
set_option linter.unusedSectionVars false
set_option maxRecDepth 100000
attribute [local go_sem] Oper.semAt_some

theorem own_slice {α : Type} {cs : α → List Value} {e : TypeId} {k : Nat} {w : World} {base : Nat} {v : Value} {l : List α} (h : OwnG cs e k w base v l) : ∃ P n c, v = .slice P n c := by
  rcases h.2 with ⟨rfl, _⟩ | ⟨g, cap, cur, rfl, _⟩
  · exact ⟨_, _, _, rfl⟩
  · exact ⟨_, _, _, rfl⟩
theorem line_after {Wi w9 : World} {F : Nat → Prop} {b : Nat} {v v9 : Value} {S : LkSt} {L1 : LineL} (h : LockS Wi F b v S) (ho : OwnG Rq.cells 75 4 w9 (b + 3) v9 L1) (hg : Wi.grownBy w9 v.ownBlock) (hob : v9.ownBlock = v.ownBlock ∨ v9.ownBlock = some Wi.heap.size) :
    LockS (w9.setCell ⟨b + 2, 2, none⟩ v9) (fun i => F i ∨ v9.ownBlock = some i) b v9 ⟨S.H, L1⟩ ∧ UpdF F Wi (w9.setCell ⟨b + 2, 2, none⟩ v9) := by
  have hu := UpdF.of_grown hg
  have hbl := h.line.base_
  have hs : UpdF (fun i => i = b + 2) w9 (w9.setCell ⟨b + 2, 2, none⟩ v9) := (UpdF.refl (fun i => i = b + 2) w9).setCell (p := ⟨b + 2, 2, none⟩) (.inl rfl) v9
  have hne : ∀ k, k < b + 3 → ¬ v.ownBlock = some k := fun k hk e => by have := hbl k e; omega
  refine ⟨⟨?_, (h.held.updF hu (hne _ (by omega))).updF hs (by omega), (h.noted.updF hu (hne _ (by omega))).updF hs (by omega), ho.upd hs (fun g hg => by have := ho.base_ g hg; omega), .inl h.f0, .inl h.f1, .inl h.f2, fun g hg => .inr hg, fun k hk => ?_⟩, ?_⟩
  · have := (h.box.upd hu (hne _ (by omega))).set 2 v9
    simpa using this
  · rcases hk with hk | hk
    · exact h.low k hk
    · have := ho.base_ k hk; omega
  · exact (hu.mono (fun i hi => h.fl i hi)).trans (hs.mono (fun i hi => by rw [hi]; exact h.f2))
theorem line_final {w W10 w11 : World} {F F' : Nat → Prop} {b : Nat} {S2 : LkSt} {a : AskR} {vv vg : Value} (hFs : ∀ i, F i → i < w.heap.size) (hF' : ∀ i, F' i → F i ∨ w.heap.size < i) (hU10 : UpdF F w W10) (hsz : w.heap.size < W10.heap.size)
    (hov : OwnI w11 W10.heap.size vv a.2.1) (hog : OwnG csG 83 3 w11 W10.heap.size vg a.2.2) (hpost : LkPost W10 F' b w11 S2) (x y z : Value) :
    AskV (((w11.setCell ⟨w.heap.size, 0, none⟩ x).setCell ⟨w.heap.size, 1, none⟩ y).setCell ⟨w.heap.size, 2, none⟩ z) w.heap.size a (.agg #[.bool a.1, vv, vg]) ∧ LkPost w F b (((w11.setCell ⟨w.heap.size, 0, none⟩ x).setCell ⟨w.heap.size, 1, none⟩ y).setCell ⟨w.heap.size, 2, none⟩ z) S2 := by
  have hs := set3_one w11 w.heap.size x y z
  obtain ⟨F2, v2, h1, h2, h3, h4⟩ := hpost
  have hno : ∀ i, F2 i → ¬ i = w.heap.size := fun i hi e => by
    rcases h4 i hi with h | h
    · rcases hF' i h with h | h
      · have := hFs i h; omega
      · omega
    · omega
  refine ⟨⟨vv, vg, rfl, OwnG.down (hov.upd hs (fun g hg => by have := hov.base_ g hg; omega)) (by omega), OwnG.down (hog.upd hs (fun g hg => by have := hog.base_ g hg; omega)) (by omega)⟩, F2, v2, h1.upd hs hno, fun i hi => by rw [size_set3]; exact h2 i hi, ?_, fun i hi => ?_⟩
  · refine set3_upd (hU10.trans_new h3 (fun i hi => ?_)) (Nat.le_refl _) x y z
    rcases hF' i hi with h | h
    · exact .inl h
    · exact .inr (by omega)
  · rcases h4 i hi with h | h
    · rcases hF' i h with h | h
      · exact .inl h
      · exact .inr (by omega)
    · exact .inr (by omega)
set_option maxHeartbeats 4000000 in
theorem lask_line_no (u m : Int) (n : ByteArray) (w : World) {F : Nat → Prop} {b : Nat} {v : Value} {S : LkSt} (h : LockS w F b v S) (hS : LkOk S) (hn : n.size ≤ 1000000) (hE : askedE u n = 0) (hm : modeN m = true) (hw : waitsB S.L u = false) (hok : OkP (u, n)) (hk : heldM S.H u n = none) (hlim : S.H.length < 1000)
    (hf : ¬ forL S.H (S.L.take S.L.length) (u, n, m) = []) (hFs : ∀ i, F i → i < w.heap.size) (a : AskR) (S2 : LkSt)
    (hset : ∀ (W : World) (F' : Nat → Prop) (v' : Value), LockS W F' b v' ⟨S.H, S.L.take S.L.length ++ ((u, n, m), false) :: S.L.drop S.L.length⟩ → (∀ i, F' i → i < W.heap.size) → Calls Tryd.prog 42 #[.pointer (some ⟨b + 2, 0, none⟩), .int .i64 u] W fun e w' => ∃ vv vg, e = .returned (.agg #[.bool a.1, vv, vg]) ∧ OwnI w' W.heap.size vv a.2.1 ∧ OwnG csG 83 3 w' W.heap.size vg a.2.2 ∧ LkPost W F' b w' S2) :
    Calls Tryd.prog 16 #[.pointer (some ⟨b + 2, 0, none⟩), .int .i64 u, .string n, .int .i64 m] w fun e w' => ∃ val, e = .returned (.tuple #[val, .int .i64 0]) ∧ AskV w' w.heap.size a val ∧ LkPost w F b w' S2 := by
  have hA := fun W => lasked_any (b + 2) u n W hn
  have hM := fun W => lmode_any m W
  have hx1 : Ext w (w.alloc (.cells #[.bool false, .slice none 0 0, .slice none 0 0] 39)) := (Ext.refl w).alloc _
  have HB := Lib.hid (ask_box w)
  have hU := fun W (hx : Ext (w.alloc (.cells #[.bool false, .slice none 0 0, .slice none 0 0] 39)) W) => lbusy_any u W (h.ext (hx1.trans hx)) (by have := hS.ln; omega)
  obtain ⟨P, cap, rfl, hsl⟩ := OwnG.slG elemR h.line (by have := hS.ln; omega)
  have hcap := hsl.cap
  have hle2 := hsl.le
  have hln := hS.ln
  have hmk : decide (m ≤ 0) = false := decide_eq_false (by have := mode_pos hm; omega)
  have hmk2 : (0 : Int) < m := by have := mode_pos hm; omega
  have hll : (S.H.length : Int) < 1000 := by omega
  have hGr : GrOk (u, n, m) := ⟨hm, hn⟩
  rw [hE] at hA
  have hMt := hM
  rw [hm] at hMt
  rw [if_neg (by rw [hw]; simp)] at hU
  have hlook : ∀ W, Ext w W → (Instr.lookup 64 (.map (some b)) (.agg #[.int .i64 u, .string n]) true).run Tryd.prog W = .ok (.tuple #[.int .i64 0, .bool false]) W := fun W hx => by
    have := held_look (h.ext hx).held hok
    rw [hk] at this
    exact this
  have hbx : ∀ W, Ext w W → W.cell? ⟨b + 2, 0, none⟩ = some (.map (some b)) ∧ W.cell? ⟨b + 2, 2, none⟩ = some (.slice P S.L.length cap) := fun W hx => ⟨(h.ext hx).box.cell (i := 0) rfl, (h.ext hx).box.cell (i := 2) rfl⟩
  have hFr := fun W (hx : Ext w W) => lfree_any ((u, n, m), false) S.L.length W (h.ext hx) hS (by omega) hGr
  rw [decide_eq_false hf] at hFr
  unfold Rq.v at hFr
  go_enter Tryd.func16, Tryd.ntmps16
  go_wp2_with (first
    | (go_at_call 35; refine (hA _).mono ?_; rintro e w2 ⟨rfl, hx2⟩)
    | (go_at_call 23; refine (hMt _).mono ?_; rintro e w3 ⟨rfl, rfl⟩)
    | (go_at_call 36; refine (hU _ hx2).mono ?_; rintro e w4 ⟨rfl, hx4⟩)
    | (refine ⟨trivial, ?_⟩) | (with_reducible refine And.intro (fun _ hf => (by cases hf)) ?_))
  have hx5 : Ext w (w4.alloc (.cells #[.int .i64 u, .string n] 72)) := (hx1.trans (hx2.trans hx4)).alloc _
  have hlk := hlook _ hx5.drew
  have hbb := (hbx _ hx5.drew).1
  have HB5 := Lib.hid (HB.out _ ((hx2.trans hx4).alloc (.cells #[.int .i64 u, .string n] 72)).drew)
  have HP := Lib.hid ((BoxN.new w4 72 #[.int .i64 u, .string n]).ext (Ext.refl _).drew)
  have HX5 := Lib.hid hx5.drew
  have p0 : (w4.alloc (.cells #[.int .i64 u, .string n] 72)).cell? ⟨w4.heap.size, 0, none⟩ = some (.int .i64 u) := (BoxN.new w4 72 #[.int .i64 u, .string n]).cell (i := 0) rfl
  have p1 : (w4.alloc (.cells #[.int .i64 u, .string n] 72)).cell? ⟨w4.heap.size, 1, none⟩ = some (.string n) := (BoxN.new w4 72 #[.int .i64 u, .string n]).cell (i := 1) rfl
  apply wp_join
  case h =>
    intro K2 hQ
    go_region
    all_goals exact hQ
  clear hlk hbb p0 p1 hlook hU hA hM hMt
  have hz5 : (w4.alloc (.cells #[.int .i64 u, .string n] 72)).drew.heap.size = w4.heap.size + 1 := by show (w4.alloc _).heap.size = _; rw [World.size_alloc]
  have hwz : w.heap.size < w4.heap.size := by
    have := (hx2.trans hx4).size
    rw [World.size_alloc] at this
    omega
  generalize (w4.alloc (.cells #[.int .i64 u, .string n] 72)).drew = w5 at *
  have hx6 : Ext w (w5.alloc (.cells #[.int .i64 u, .string n, .int .i64 m, .bool false] 75)) := HX5.out.alloc _
  have kq := (hbx w5 HX5.out)
  obtain ⟨kq0, kq2⟩ := kq
  have hCells : ∀ W, Ext (w5.alloc (.cells #[.int .i64 u, .string n, .int .i64 m, .bool false] 75)) W → W.cell? ⟨b + 2, 2, none⟩ = some (.slice P S.L.length cap) ∧ W.cell? ⟨w5.heap.size, 0, none⟩ = some (.int .i64 u) ∧ W.cell? ⟨w5.heap.size, 1, none⟩ = some (.string n) ∧ W.cell? ⟨w5.heap.size, 2, none⟩ = some (.int .i64 m) ∧ W.cell? ⟨w5.heap.size, 3, none⟩ = some (.bool false) ∧ W.cell? ⟨w4.heap.size, 0, none⟩ = some (.int .i64 u) ∧ W.cell? ⟨w4.heap.size, 1, none⟩ = some (.string n) := fun W hx =>
    let B := (BoxN.new w5 75 #[.int .i64 u, .string n, .int .i64 m, .bool false]).ext hx
    let Q := HP.out.ext ((Ext.refl w5).alloc (.cells #[.int .i64 u, .string n, .int .i64 m, .bool false] 75))
    ⟨(hbx W (hx6.trans hx)).2, B.cell (i := 0) rfl, B.cell (i := 1) rfl, B.cell (i := 2) rfl, B.cell (i := 3) rfl, (Q.ext hx).cell (i := 0) rfl, (Q.ext hx).cell (i := 1) rfl⟩
  have p0 : w5.cell? ⟨w4.heap.size, 0, none⟩ = some (.int .i64 u) := HP.out.cell (i := 0) rfl
  have p1 : w5.cell? ⟨w4.heap.size, 1, none⟩ = some (.string n) := HP.out.cell (i := 1) rfl
  obtain ⟨kq6, r0, r1, r2, r3, p60, p61⟩ := hCells _ (Ext.refl _)
  have HZ5 := Lib.hid hz5
  have HW5 := Lib.hid (show w.heap.size < w5.heap.size from by rw [hz5]; omega)
  clear hz5
  have HX6 := Lib.hid hx6
  have hl5 : ∀ ty, (Builtin.len_ #[64] ty #[.map (some b)]).run Tryd.prog w5 = .ok (.int .i64 S.H.length) w5 := fun ty => by
    have := (h.ext HX5.out).held.len Tryd.underlying64 ty
    unfold heldA at this
    rw [List.length_map] at this
    exact this
  have hB6 : ∀ W, Ext (w5.alloc (.cells #[.int .i64 u, .string n, .int .i64 m, .bool false] 75)) W → BoxN W w.heap.size 39 #[.bool false, .slice none 0 0, .slice none 0 0] := fun W hx => HB5.out.ext (((Ext.refl w5).alloc _).trans hx)
  have hbw := h.box.lt
  have hHH := Lib.hid (And.intro h (And.intro hFs hset))
  have hal : S.L.length ≤ S.L.length := by omega
  clear h hbx hsl hf hk hFs hset
  go_wp2_with (first
    | (go_at_call 39; refine (hFr _ hx6).mono ?_; rintro e w8 ⟨rfl, hx8⟩; obtain ⟨kq0, r0, r1, r2, r3, p0, p1⟩ := hCells w8 hx8)
    | (refine ⟨trivial, ?_⟩) | (with_reducible refine And.intro (fun _ hf => (by cases hf)) ?_))
  have hxw8 := HX6.out.trans hx8
  have hxi : Ext w (w8.drew.alloc (.cells #[.int .i64 u, .string n, .int .i64 m, .bool false] 75)) := hxw8.drew.alloc _
  have hLi := hHH.out.1.ext hxi
  have hszi : (w8.drew.alloc (.cells #[.int .i64 u, .string n, .int .i64 m, .bool false] 75)).heap.size = w8.heap.size + 1 := by rw [World.size_alloc]; rfl
  have hw8s := (hx8).size
  rw [World.size_alloc] at hw8s
  have HWZ := Lib.hid (show w.heap.size < w8.heap.size from by have := HW5.out; omega)
  have hIns := linsert_any S.L _ (b + 3) S.L.length ((u, n, m), false) w8.heap.size _ hln hal (by rw [hszi]; have := HWZ.out; omega) hLi.line (World.alloc_heap_new w8.drew (.cells #[.int .i64 u, .string n, .int .i64 m, .bool false] 75)) (fun e => by
    have h1 := hHH.out.2.1 _ (hHH.out.1.fl _ e)
    have := HWZ.out
    omega)
  have HXI := Lib.hid hxi
  have HSZ := Lib.hid (And.intro hszi hw8s)
  have HIX := Lib.hid (And.intro hLi.box (And.intro hLi.held hLi.noted))
  have hl8 : w8.drew.cell? ⟨b + 2, 2, none⟩ = some (.slice P S.L.length cap) := kq0
  have hl8b : (w8.alloc (.cells #[.int .i64 u, .string n, .int .i64 m, .bool false] 75)).cell? ⟨b + 2, 2, none⟩ = some (.slice P S.L.length cap) := HIX.out.1.cell (i := 2) rfl
  have q0 : w8.drew.cell? ⟨w5.heap.size, 0, none⟩ = some (.int .i64 u) := r0
  have q1 : w8.drew.cell? ⟨w5.heap.size, 1, none⟩ = some (.string n) := r1
  have q2 : w8.drew.cell? ⟨w5.heap.size, 2, none⟩ = some (.int .i64 m) := r2
  have q3 : w8.drew.cell? ⟨w5.heap.size, 3, none⟩ = some (.bool false) := r3
  have hlen9 : (S.L.take S.L.length ++ ((u, n, m), false) :: S.L.drop S.L.length).length = S.L.length + 1 := by
    simp only [List.length_append, List.length_take, List.length_cons, List.length_drop]
    omega
  clear hLi hszi hxi hCells hFr
  go_region_with (go_at_call 41; refine hIns.mono ?_; rintro e w9 ⟨v9, rfl, ho9, hg9, hob9⟩; obtain ⟨g9, c9, hv9, -⟩ := ho9.tight (by rw [List.length_append, List.length_cons]; omega); rw [hlen9] at hv9; subst hv9; obtain ⟨k90, k91, k92, k93, k94, k95⟩ := box_cells (HIX.out.1.upd (UpdF.of_grown hg9) (fun e => by have := hHH.out.1.line.base_ _ e; omega)))
  all_goals (
    simp only [Exit.then]
    refine (by assumption : ∀ (a : Act) (w : World), _ → _) _ _ ?_
    have hLi := hHH.out.1.ext HXI.out
    obtain ⟨hL10, hU10⟩ := line_after hLi ho9 hg9 hob9
    have hU0 := (UpdF.of_ext HXI.out F).trans hU10
    have hsz10 := hU10.size
    rw [HSZ.out.1] at hsz10 hob9
    have hw8z := HSZ.out.2
    have hF1 : ∀ i, F i ∨ (Value.slice (some ⟨g9, 0, none⟩) (S.L.length + 1) c9).ownBlock = some i → F i ∨ w.heap.size < i := fun i hi => by
      rcases hi with hi | hi
      · exact .inl hi
      · rcases hob9 with h | h
        · rw [h] at hi; exact .inl (hHH.out.1.fl i hi)
        · rw [h] at hi; injection hi with hi; right; have := HXI.out.size; rw [HSZ.out.1] at this; have := HWZ.out; omega
    have hF2 : ∀ i, F i ∨ (Value.slice (some ⟨g9, 0, none⟩) (S.L.length + 1) c9).ownBlock = some i → i < (w9.setCell ⟨b + 2, 2, none⟩ (.slice (some ⟨g9, 0, none⟩) (S.L.length + 1) c9)).heap.size := fun i hi => by
      rcases hi with hi | hi
      · have := hHH.out.2.1 i hi; have := HWZ.out; omega
      · exact (own_lt hL10.line hi).2
    have hSt := hHH.out.2.2 _ _ _ hL10 hF2
    have hB10 := (hB6 _ hx8).ext ((Ext.refl w8).drew.alloc (.cells #[.int .i64 u, .string n, .int .i64 m, .bool false] 75))
    have hB11 := hB10.upd hU10 (fun e => by have := hHH.out.2.1 _ e; omega)
    have HQ := Lib.hid (And.intro hL10 (And.intro hU0 (And.intro hF1 (And.intro hB11 hsz10))))
    clear hL10 hU0 hF1 hB11 hB10 hU10 hLi hF2 ho9 hg9 hob9
    go_wp2_with (go_at_call 42; refine hSt.mono ?_; rintro e w11 ⟨vv, vg, rfl, hov, hog, hpost⟩; obtain ⟨Pv, nv, cv, rfl⟩ := own_slice hov; obtain ⟨Pg, ng, cg, rfl⟩ := own_slice hog; obtain ⟨c0, c1, c2, f0, f1, f2⟩ := box_cells (HQ.out.2.2.2.1.upd hpost.choose_spec.choose_spec.2.2.1 (fun e => by
      rcases HQ.out.2.2.1 _ e with h | h
      · have := hHH.out.2.1 _ h; omega
      · omega)))
    have hb := box3_set (HQ.out.2.2.2.1.upd hpost.choose_spec.choose_spec.2.2.1 (fun e => by
      rcases HQ.out.2.2.1 _ e with h | h
      · have := hHH.out.2.1 _ h; omega
      · omega)) (.bool a.1) (.slice Pv nv cv) (.slice Pg ng cg)
    refine bodyPost_ret (ask_end w.heap.size _ _ _ _ _ _ rfl rfl (hb.cell (i := 0) rfl) (hb.cell (i := 1) rfl) (hb.cell (i := 2) rfl)) rfl ?_
    exact ⟨_, rfl, line_final hHH.out.2.1 HQ.out.2.2.1 HQ.out.2.1 (by have := HQ.out.2.2.2.2; have := HWZ.out; omega) hov hog hpost (.bool a.1) (.slice Pv nv cv) (.slice Pg ng cg)⟩)
set_option maxHeartbeats 4000000 in
theorem lask_line_in (u m : Int) (n : ByteArray) (w : World) {F : Nat → Prop} {b : Nat} {v : Value} {S : LkSt} (h : LockS w F b v S) (hS : LkOk S) (hn : n.size ≤ 1000000) (hE : askedE u n = 0) (hm : modeN m = true) (hw : waitsB S.L u = false) (hok : OkP (u, n)) (k : Int) (hk : heldM S.H u n = some k) (hle : ¬ m ≤ k) (hix : S.L.findIdx (fun e : Gr × Bool => !e.2) < S.L.length)
    (hf : ¬ forL S.H (S.L.take (chgN S.L)) (u, n, m) = []) (hFs : ∀ i, F i → i < w.heap.size) (a : AskR) (S2 : LkSt)
    (hset : ∀ (W : World) (F' : Nat → Prop) (v' : Value), LockS W F' b v' ⟨S.H, S.L.take (chgN S.L) ++ ((u, n, m), true) :: S.L.drop (chgN S.L)⟩ → (∀ i, F' i → i < W.heap.size) → Calls Tryd.prog 42 #[.pointer (some ⟨b + 2, 0, none⟩), .int .i64 u] W fun e w' => ∃ vv vg, e = .returned (.agg #[.bool a.1, vv, vg]) ∧ OwnI w' W.heap.size vv a.2.1 ∧ OwnG csG 83 3 w' W.heap.size vg a.2.2 ∧ LkPost W F' b w' S2) :
    Calls Tryd.prog 16 #[.pointer (some ⟨b + 2, 0, none⟩), .int .i64 u, .string n, .int .i64 m] w fun e w' => ∃ val, e = .returned (.tuple #[val, .int .i64 0]) ∧ AskV w' w.heap.size a val ∧ LkPost w F b w' S2 := by
  have hA := fun W => lasked_any (b + 2) u n W hn
  have hM := fun W => lmode_any m W
  have hx1 : Ext w (w.alloc (.cells #[.bool false, .slice none 0 0, .slice none 0 0] 39)) := (Ext.refl w).alloc _
  have HB := Lib.hid (ask_box w)
  have hU := fun W (hx : Ext (w.alloc (.cells #[.bool false, .slice none 0 0, .slice none 0 0] 39)) W) => lbusy_any u W (h.ext (hx1.trans hx)) (by have := hS.ln; omega)
  obtain ⟨P, cap, rfl, hsl⟩ := OwnG.slG elemR h.line (by have := hS.ln; omega)
  have hcap := hsl.cap
  have hle2 := hsl.le
  have hln := hS.ln
  have hmk : decide (m ≤ k) = false := decide_eq_false hle
  have hmk2 : k < m := by omega
  have hat : chgN S.L < S.L.length := hix
  have hci : ¬ ((chgN S.L : Nat) : Int) < 0 := by omega
  have hIx := fun W (hx : Ext w W) => idxask_any P cap S.L W (hsl.ext hx)
  rw [chg_pos hix] at hIx
  have hGr : GrOk (u, n, m) := ⟨hm, hn⟩
  rw [hE] at hA
  have hMt := hM
  rw [hm] at hMt
  rw [if_neg (by rw [hw]; simp)] at hU
  have hlook : ∀ W, Ext w W → (Instr.lookup 64 (.map (some b)) (.agg #[.int .i64 u, .string n]) true).run Tryd.prog W = .ok (.tuple #[.int .i64 k, .bool true]) W := fun W hx => by
    have := held_look (h.ext hx).held hok
    rw [hk] at this
    exact this
  have hbx : ∀ W, Ext w W → W.cell? ⟨b + 2, 0, none⟩ = some (.map (some b)) ∧ W.cell? ⟨b + 2, 2, none⟩ = some (.slice P S.L.length cap) := fun W hx => ⟨(h.ext hx).box.cell (i := 0) rfl, (h.ext hx).box.cell (i := 2) rfl⟩
  have hFr := fun W (hx : Ext w W) => lfree_any ((u, n, m), true) (chgN S.L) W (h.ext hx) hS (by omega) hGr
  rw [decide_eq_false hf] at hFr
  unfold Rq.v at hFr
  go_enter Tryd.func16, Tryd.ntmps16
  go_wp2_with (first
    | (go_at_call 35; refine (hA _).mono ?_; rintro e w2 ⟨rfl, hx2⟩)
    | (go_at_call 23; refine (hMt _).mono ?_; rintro e w3 ⟨rfl, rfl⟩)
    | (go_at_call 36; refine (hU _ hx2).mono ?_; rintro e w4 ⟨rfl, hx4⟩)
    | (refine ⟨trivial, ?_⟩) | (with_reducible refine And.intro (fun _ hf => (by cases hf)) ?_))
  have hx5 : Ext w (w4.alloc (.cells #[.int .i64 u, .string n] 72)) := (hx1.trans (hx2.trans hx4)).alloc _
  have hlk := hlook _ hx5.drew
  have hbb := (hbx _ hx5.drew).1
  have HB5 := Lib.hid (HB.out _ ((hx2.trans hx4).alloc (.cells #[.int .i64 u, .string n] 72)).drew)
  have HP := Lib.hid ((BoxN.new w4 72 #[.int .i64 u, .string n]).ext (Ext.refl _).drew)
  have HX5 := Lib.hid hx5.drew
  have p0 : (w4.alloc (.cells #[.int .i64 u, .string n] 72)).cell? ⟨w4.heap.size, 0, none⟩ = some (.int .i64 u) := (BoxN.new w4 72 #[.int .i64 u, .string n]).cell (i := 0) rfl
  have p1 : (w4.alloc (.cells #[.int .i64 u, .string n] 72)).cell? ⟨w4.heap.size, 1, none⟩ = some (.string n) := (BoxN.new w4 72 #[.int .i64 u, .string n]).cell (i := 1) rfl
  apply wp_join
  case h =>
    intro K2 hQ
    go_region
    all_goals exact hQ
  clear hlk hbb p0 p1 hlook hU hA hM hMt
  have hz5 : (w4.alloc (.cells #[.int .i64 u, .string n] 72)).drew.heap.size = w4.heap.size + 1 := by show (w4.alloc _).heap.size = _; rw [World.size_alloc]
  have hwz : w.heap.size < w4.heap.size := by
    have := (hx2.trans hx4).size
    rw [World.size_alloc] at this
    omega
  generalize (w4.alloc (.cells #[.int .i64 u, .string n] 72)).drew = w5 at *
  have hx6 : Ext w (w5.alloc (.cells #[.int .i64 u, .string n, .int .i64 m, .bool true] 75)) := HX5.out.alloc _
  have kq := (hbx w5 HX5.out)
  obtain ⟨kq0, kq2⟩ := kq
  have hCells : ∀ W, Ext (w5.alloc (.cells #[.int .i64 u, .string n, .int .i64 m, .bool true] 75)) W → W.cell? ⟨b + 2, 2, none⟩ = some (.slice P S.L.length cap) ∧ W.cell? ⟨w5.heap.size, 0, none⟩ = some (.int .i64 u) ∧ W.cell? ⟨w5.heap.size, 1, none⟩ = some (.string n) ∧ W.cell? ⟨w5.heap.size, 2, none⟩ = some (.int .i64 m) ∧ W.cell? ⟨w5.heap.size, 3, none⟩ = some (.bool true) ∧ W.cell? ⟨w4.heap.size, 0, none⟩ = some (.int .i64 u) ∧ W.cell? ⟨w4.heap.size, 1, none⟩ = some (.string n) := fun W hx =>
    let B := (BoxN.new w5 75 #[.int .i64 u, .string n, .int .i64 m, .bool true]).ext hx
    let Q := HP.out.ext ((Ext.refl w5).alloc (.cells #[.int .i64 u, .string n, .int .i64 m, .bool true] 75))
    ⟨(hbx W (hx6.trans hx)).2, B.cell (i := 0) rfl, B.cell (i := 1) rfl, B.cell (i := 2) rfl, B.cell (i := 3) rfl, (Q.ext hx).cell (i := 0) rfl, (Q.ext hx).cell (i := 1) rfl⟩
  have p0 : w5.cell? ⟨w4.heap.size, 0, none⟩ = some (.int .i64 u) := HP.out.cell (i := 0) rfl
  have p1 : w5.cell? ⟨w4.heap.size, 1, none⟩ = some (.string n) := HP.out.cell (i := 1) rfl
  obtain ⟨kq6, r0, r1, r2, r3, p60, p61⟩ := hCells _ (Ext.refl _)
  have HZ5 := Lib.hid hz5
  have HW5 := Lib.hid (show w.heap.size < w5.heap.size from by rw [hz5]; omega)
  clear hz5
  have HX6 := Lib.hid hx6
  have hB6 : ∀ W, Ext (w5.alloc (.cells #[.int .i64 u, .string n, .int .i64 m, .bool true] 75)) W → BoxN W w.heap.size 39 #[.bool false, .slice none 0 0, .slice none 0 0] := fun W hx => HB5.out.ext (((Ext.refl w5).alloc _).trans hx)
  have hbw := h.box.lt
  have hHH := Lib.hid (And.intro h (And.intro hFs hset))
  have hal : (chgN S.L) ≤ S.L.length := by omega
  clear h hbx hsl hf hk hFs hset
  go_wp2_with (first
    | (go_at_call 37; refine (hIx _ hx6).mono ?_; rintro e w7 ⟨rfl, hx7⟩; obtain ⟨kq0, r0, r1, r2, r3, p0, p1⟩ := hCells w7 hx7)
    | (go_at_call 39; refine (hFr _ (hx6.trans hx7)).mono ?_; rintro e w8 ⟨rfl, hx8⟩; obtain ⟨kq0, r0, r1, r2, r3, p0, p1⟩ := hCells w8 (hx7.trans hx8))
    | (refine ⟨trivial, ?_⟩) | (with_reducible refine And.intro (fun _ hf => (by cases hf)) ?_))
  have hxw8 := HX6.out.trans (hx7.trans hx8)
  have hxi : Ext w (w8.drew.alloc (.cells #[.int .i64 u, .string n, .int .i64 m, .bool true] 75)) := hxw8.drew.alloc _
  have hLi := hHH.out.1.ext hxi
  have hszi : (w8.drew.alloc (.cells #[.int .i64 u, .string n, .int .i64 m, .bool true] 75)).heap.size = w8.heap.size + 1 := by rw [World.size_alloc]; rfl
  have hw8s := ((hx7.trans hx8)).size
  rw [World.size_alloc] at hw8s
  have HWZ := Lib.hid (show w.heap.size < w8.heap.size from by have := HW5.out; omega)
  have hIns := linsert_any S.L _ (b + 3) (chgN S.L) ((u, n, m), true) w8.heap.size _ hln hal (by rw [hszi]; have := HWZ.out; omega) hLi.line (World.alloc_heap_new w8.drew (.cells #[.int .i64 u, .string n, .int .i64 m, .bool true] 75)) (fun e => by
    have h1 := hHH.out.2.1 _ (hHH.out.1.fl _ e)
    have := HWZ.out
    omega)
  have HXI := Lib.hid hxi
  have HSZ := Lib.hid (And.intro hszi hw8s)
  have HIX := Lib.hid (And.intro hLi.box (And.intro hLi.held hLi.noted))
  have hl8 : w8.drew.cell? ⟨b + 2, 2, none⟩ = some (.slice P S.L.length cap) := kq0
  have hl8b : (w8.alloc (.cells #[.int .i64 u, .string n, .int .i64 m, .bool true] 75)).cell? ⟨b + 2, 2, none⟩ = some (.slice P S.L.length cap) := HIX.out.1.cell (i := 2) rfl
  have q0 : w8.drew.cell? ⟨w5.heap.size, 0, none⟩ = some (.int .i64 u) := r0
  have q1 : w8.drew.cell? ⟨w5.heap.size, 1, none⟩ = some (.string n) := r1
  have q2 : w8.drew.cell? ⟨w5.heap.size, 2, none⟩ = some (.int .i64 m) := r2
  have q3 : w8.drew.cell? ⟨w5.heap.size, 3, none⟩ = some (.bool true) := r3
  have hlen9 : (S.L.take (chgN S.L) ++ ((u, n, m), true) :: S.L.drop (chgN S.L)).length = S.L.length + 1 := by
    simp only [List.length_append, List.length_take, List.length_cons, List.length_drop]
    omega
  clear hLi hszi hxi hCells hFr
  go_region_with (go_at_call 41; refine hIns.mono ?_; rintro e w9 ⟨v9, rfl, ho9, hg9, hob9⟩; obtain ⟨g9, c9, hv9, -⟩ := ho9.tight (by rw [List.length_append, List.length_cons]; omega); rw [hlen9] at hv9; subst hv9; obtain ⟨k90, k91, k92, k93, k94, k95⟩ := box_cells (HIX.out.1.upd (UpdF.of_grown hg9) (fun e => by have := hHH.out.1.line.base_ _ e; omega)))
  all_goals (
    simp only [Exit.then]
    refine (by assumption : ∀ (a : Act) (w : World), _ → _) _ _ ?_
    have hLi := hHH.out.1.ext HXI.out
    obtain ⟨hL10, hU10⟩ := line_after hLi ho9 hg9 hob9
    have hU0 := (UpdF.of_ext HXI.out F).trans hU10
    have hsz10 := hU10.size
    rw [HSZ.out.1] at hsz10 hob9
    have hw8z := HSZ.out.2
    have hF1 : ∀ i, F i ∨ (Value.slice (some ⟨g9, 0, none⟩) (S.L.length + 1) c9).ownBlock = some i → F i ∨ w.heap.size < i := fun i hi => by
      rcases hi with hi | hi
      · exact .inl hi
      · rcases hob9 with h | h
        · rw [h] at hi; exact .inl (hHH.out.1.fl i hi)
        · rw [h] at hi; injection hi with hi; right; have := HXI.out.size; rw [HSZ.out.1] at this; have := HWZ.out; omega
    have hF2 : ∀ i, F i ∨ (Value.slice (some ⟨g9, 0, none⟩) (S.L.length + 1) c9).ownBlock = some i → i < (w9.setCell ⟨b + 2, 2, none⟩ (.slice (some ⟨g9, 0, none⟩) (S.L.length + 1) c9)).heap.size := fun i hi => by
      rcases hi with hi | hi
      · have := hHH.out.2.1 i hi; have := HWZ.out; omega
      · exact (own_lt hL10.line hi).2
    have hSt := hHH.out.2.2 _ _ _ hL10 hF2
    have hB10 := (hB6 _ (hx7.trans hx8)).ext ((Ext.refl w8).drew.alloc (.cells #[.int .i64 u, .string n, .int .i64 m, .bool true] 75))
    have hB11 := hB10.upd hU10 (fun e => by have := hHH.out.2.1 _ e; omega)
    have HQ := Lib.hid (And.intro hL10 (And.intro hU0 (And.intro hF1 (And.intro hB11 hsz10))))
    clear hL10 hU0 hF1 hB11 hB10 hU10 hLi hF2 ho9 hg9 hob9
    go_wp2_with (go_at_call 42; refine hSt.mono ?_; rintro e w11 ⟨vv, vg, rfl, hov, hog, hpost⟩; obtain ⟨Pv, nv, cv, rfl⟩ := own_slice hov; obtain ⟨Pg, ng, cg, rfl⟩ := own_slice hog; obtain ⟨c0, c1, c2, f0, f1, f2⟩ := box_cells (HQ.out.2.2.2.1.upd hpost.choose_spec.choose_spec.2.2.1 (fun e => by
      rcases HQ.out.2.2.1 _ e with h | h
      · have := hHH.out.2.1 _ h; omega
      · omega)))
    have hb := box3_set (HQ.out.2.2.2.1.upd hpost.choose_spec.choose_spec.2.2.1 (fun e => by
      rcases HQ.out.2.2.1 _ e with h | h
      · have := hHH.out.2.1 _ h; omega
      · omega)) (.bool a.1) (.slice Pv nv cv) (.slice Pg ng cg)
    refine bodyPost_ret (ask_end w.heap.size _ _ _ _ _ _ rfl rfl (hb.cell (i := 0) rfl) (hb.cell (i := 1) rfl) (hb.cell (i := 2) rfl)) rfl ?_
    exact ⟨_, rfl, line_final hHH.out.2.1 HQ.out.2.2.1 HQ.out.2.1 (by have := HQ.out.2.2.2.2; have := HWZ.out; omega) hov hog hpost (.bool a.1) (.slice Pv nv cv) (.slice Pg ng cg)⟩)
set_option maxHeartbeats 4000000 in
theorem lask_line_end (u m : Int) (n : ByteArray) (w : World) {F : Nat → Prop} {b : Nat} {v : Value} {S : LkSt} (h : LockS w F b v S) (hS : LkOk S) (hn : n.size ≤ 1000000) (hE : askedE u n = 0) (hm : modeN m = true) (hw : waitsB S.L u = false) (hok : OkP (u, n)) (k : Int) (hk : heldM S.H u n = some k) (hle : ¬ m ≤ k) (hix : ¬ S.L.findIdx (fun e : Gr × Bool => !e.2) < S.L.length)
    (hf : ¬ forL S.H (S.L.take S.L.length) (u, n, m) = []) (hFs : ∀ i, F i → i < w.heap.size) (a : AskR) (S2 : LkSt)
    (hset : ∀ (W : World) (F' : Nat → Prop) (v' : Value), LockS W F' b v' ⟨S.H, S.L.take S.L.length ++ ((u, n, m), true) :: S.L.drop S.L.length⟩ → (∀ i, F' i → i < W.heap.size) → Calls Tryd.prog 42 #[.pointer (some ⟨b + 2, 0, none⟩), .int .i64 u] W fun e w' => ∃ vv vg, e = .returned (.agg #[.bool a.1, vv, vg]) ∧ OwnI w' W.heap.size vv a.2.1 ∧ OwnG csG 83 3 w' W.heap.size vg a.2.2 ∧ LkPost W F' b w' S2) :
    Calls Tryd.prog 16 #[.pointer (some ⟨b + 2, 0, none⟩), .int .i64 u, .string n, .int .i64 m] w fun e w' => ∃ val, e = .returned (.tuple #[val, .int .i64 0]) ∧ AskV w' w.heap.size a val ∧ LkPost w F b w' S2 := by
  have hA := fun W => lasked_any (b + 2) u n W hn
  have hM := fun W => lmode_any m W
  have hx1 : Ext w (w.alloc (.cells #[.bool false, .slice none 0 0, .slice none 0 0] 39)) := (Ext.refl w).alloc _
  have HB := Lib.hid (ask_box w)
  have hU := fun W (hx : Ext (w.alloc (.cells #[.bool false, .slice none 0 0, .slice none 0 0] 39)) W) => lbusy_any u W (h.ext (hx1.trans hx)) (by have := hS.ln; omega)
  obtain ⟨P, cap, rfl, hsl⟩ := OwnG.slG elemR h.line (by have := hS.ln; omega)
  have hcap := hsl.cap
  have hle2 := hsl.le
  have hln := hS.ln
  have hmk : decide (m ≤ k) = false := decide_eq_false hle
  have hmk2 : k < m := by omega
  have hIx := fun W (hx : Ext w W) => idxask_any P cap S.L W (hsl.ext hx)
  rw [(chg_neg hix).1] at hIx
  have hGr : GrOk (u, n, m) := ⟨hm, hn⟩
  rw [hE] at hA
  have hMt := hM
  rw [hm] at hMt
  rw [if_neg (by rw [hw]; simp)] at hU
  have hlook : ∀ W, Ext w W → (Instr.lookup 64 (.map (some b)) (.agg #[.int .i64 u, .string n]) true).run Tryd.prog W = .ok (.tuple #[.int .i64 k, .bool true]) W := fun W hx => by
    have := held_look (h.ext hx).held hok
    rw [hk] at this
    exact this
  have hbx : ∀ W, Ext w W → W.cell? ⟨b + 2, 0, none⟩ = some (.map (some b)) ∧ W.cell? ⟨b + 2, 2, none⟩ = some (.slice P S.L.length cap) := fun W hx => ⟨(h.ext hx).box.cell (i := 0) rfl, (h.ext hx).box.cell (i := 2) rfl⟩
  have hFr := fun W (hx : Ext w W) => lfree_any ((u, n, m), true) S.L.length W (h.ext hx) hS (by omega) hGr
  rw [decide_eq_false hf] at hFr
  unfold Rq.v at hFr
  go_enter Tryd.func16, Tryd.ntmps16
  go_wp2_with (first
    | (go_at_call 35; refine (hA _).mono ?_; rintro e w2 ⟨rfl, hx2⟩)
    | (go_at_call 23; refine (hMt _).mono ?_; rintro e w3 ⟨rfl, rfl⟩)
    | (go_at_call 36; refine (hU _ hx2).mono ?_; rintro e w4 ⟨rfl, hx4⟩)
    | (refine ⟨trivial, ?_⟩) | (with_reducible refine And.intro (fun _ hf => (by cases hf)) ?_))
  have hx5 : Ext w (w4.alloc (.cells #[.int .i64 u, .string n] 72)) := (hx1.trans (hx2.trans hx4)).alloc _
  have hlk := hlook _ hx5.drew
  have hbb := (hbx _ hx5.drew).1
  have HB5 := Lib.hid (HB.out _ ((hx2.trans hx4).alloc (.cells #[.int .i64 u, .string n] 72)).drew)
  have HP := Lib.hid ((BoxN.new w4 72 #[.int .i64 u, .string n]).ext (Ext.refl _).drew)
  have HX5 := Lib.hid hx5.drew
  have p0 : (w4.alloc (.cells #[.int .i64 u, .string n] 72)).cell? ⟨w4.heap.size, 0, none⟩ = some (.int .i64 u) := (BoxN.new w4 72 #[.int .i64 u, .string n]).cell (i := 0) rfl
  have p1 : (w4.alloc (.cells #[.int .i64 u, .string n] 72)).cell? ⟨w4.heap.size, 1, none⟩ = some (.string n) := (BoxN.new w4 72 #[.int .i64 u, .string n]).cell (i := 1) rfl
  apply wp_join
  case h =>
    intro K2 hQ
    go_region
    all_goals exact hQ
  clear hlk hbb p0 p1 hlook hU hA hM hMt
  have hz5 : (w4.alloc (.cells #[.int .i64 u, .string n] 72)).drew.heap.size = w4.heap.size + 1 := by show (w4.alloc _).heap.size = _; rw [World.size_alloc]
  have hwz : w.heap.size < w4.heap.size := by
    have := (hx2.trans hx4).size
    rw [World.size_alloc] at this
    omega
  generalize (w4.alloc (.cells #[.int .i64 u, .string n] 72)).drew = w5 at *
  have hx6 : Ext w (w5.alloc (.cells #[.int .i64 u, .string n, .int .i64 m, .bool true] 75)) := HX5.out.alloc _
  have kq := (hbx w5 HX5.out)
  obtain ⟨kq0, kq2⟩ := kq
  have hCells : ∀ W, Ext (w5.alloc (.cells #[.int .i64 u, .string n, .int .i64 m, .bool true] 75)) W → W.cell? ⟨b + 2, 2, none⟩ = some (.slice P S.L.length cap) ∧ W.cell? ⟨w5.heap.size, 0, none⟩ = some (.int .i64 u) ∧ W.cell? ⟨w5.heap.size, 1, none⟩ = some (.string n) ∧ W.cell? ⟨w5.heap.size, 2, none⟩ = some (.int .i64 m) ∧ W.cell? ⟨w5.heap.size, 3, none⟩ = some (.bool true) ∧ W.cell? ⟨w4.heap.size, 0, none⟩ = some (.int .i64 u) ∧ W.cell? ⟨w4.heap.size, 1, none⟩ = some (.string n) := fun W hx =>
    let B := (BoxN.new w5 75 #[.int .i64 u, .string n, .int .i64 m, .bool true]).ext hx
    let Q := HP.out.ext ((Ext.refl w5).alloc (.cells #[.int .i64 u, .string n, .int .i64 m, .bool true] 75))
    ⟨(hbx W (hx6.trans hx)).2, B.cell (i := 0) rfl, B.cell (i := 1) rfl, B.cell (i := 2) rfl, B.cell (i := 3) rfl, (Q.ext hx).cell (i := 0) rfl, (Q.ext hx).cell (i := 1) rfl⟩
  have p0 : w5.cell? ⟨w4.heap.size, 0, none⟩ = some (.int .i64 u) := HP.out.cell (i := 0) rfl
  have p1 : w5.cell? ⟨w4.heap.size, 1, none⟩ = some (.string n) := HP.out.cell (i := 1) rfl
  obtain ⟨kq6, r0, r1, r2, r3, p60, p61⟩ := hCells _ (Ext.refl _)
  have HZ5 := Lib.hid hz5
  have HW5 := Lib.hid (show w.heap.size < w5.heap.size from by rw [hz5]; omega)
  clear hz5
  have HX6 := Lib.hid hx6
  have hB6 : ∀ W, Ext (w5.alloc (.cells #[.int .i64 u, .string n, .int .i64 m, .bool true] 75)) W → BoxN W w.heap.size 39 #[.bool false, .slice none 0 0, .slice none 0 0] := fun W hx => HB5.out.ext (((Ext.refl w5).alloc _).trans hx)
  have hbw := h.box.lt
  have hHH := Lib.hid (And.intro h (And.intro hFs hset))
  have hal : S.L.length ≤ S.L.length := by omega
  clear h hbx hsl hf hk hFs hset
  go_wp2_with (first
    | (go_at_call 37; refine (hIx _ hx6).mono ?_; rintro e w7 ⟨rfl, hx7⟩; obtain ⟨kq0, r0, r1, r2, r3, p0, p1⟩ := hCells w7 hx7)
    | (go_at_call 39; refine (hFr _ (hx6.trans hx7)).mono ?_; rintro e w8 ⟨rfl, hx8⟩; obtain ⟨kq0, r0, r1, r2, r3, p0, p1⟩ := hCells w8 (hx7.trans hx8))
    | (refine ⟨trivial, ?_⟩) | (with_reducible refine And.intro (fun _ hf => (by cases hf)) ?_))
  have hxw8 := HX6.out.trans (hx7.trans hx8)
  have hxi : Ext w (w8.drew.alloc (.cells #[.int .i64 u, .string n, .int .i64 m, .bool true] 75)) := hxw8.drew.alloc _
  have hLi := hHH.out.1.ext hxi
  have hszi : (w8.drew.alloc (.cells #[.int .i64 u, .string n, .int .i64 m, .bool true] 75)).heap.size = w8.heap.size + 1 := by rw [World.size_alloc]; rfl
  have hw8s := ((hx7.trans hx8)).size
  rw [World.size_alloc] at hw8s
  have HWZ := Lib.hid (show w.heap.size < w8.heap.size from by have := HW5.out; omega)
  have hIns := linsert_any S.L _ (b + 3) S.L.length ((u, n, m), true) w8.heap.size _ hln hal (by rw [hszi]; have := HWZ.out; omega) hLi.line (World.alloc_heap_new w8.drew (.cells #[.int .i64 u, .string n, .int .i64 m, .bool true] 75)) (fun e => by
    have h1 := hHH.out.2.1 _ (hHH.out.1.fl _ e)
    have := HWZ.out
    omega)
  have HXI := Lib.hid hxi
  have HSZ := Lib.hid (And.intro hszi hw8s)
  have HIX := Lib.hid (And.intro hLi.box (And.intro hLi.held hLi.noted))
  have hl8 : w8.drew.cell? ⟨b + 2, 2, none⟩ = some (.slice P S.L.length cap) := kq0
  have hl8b : (w8.alloc (.cells #[.int .i64 u, .string n, .int .i64 m, .bool true] 75)).cell? ⟨b + 2, 2, none⟩ = some (.slice P S.L.length cap) := HIX.out.1.cell (i := 2) rfl
  have q0 : w8.drew.cell? ⟨w5.heap.size, 0, none⟩ = some (.int .i64 u) := r0
  have q1 : w8.drew.cell? ⟨w5.heap.size, 1, none⟩ = some (.string n) := r1
  have q2 : w8.drew.cell? ⟨w5.heap.size, 2, none⟩ = some (.int .i64 m) := r2
  have q3 : w8.drew.cell? ⟨w5.heap.size, 3, none⟩ = some (.bool true) := r3
  have hlen9 : (S.L.take S.L.length ++ ((u, n, m), true) :: S.L.drop S.L.length).length = S.L.length + 1 := by
    simp only [List.length_append, List.length_take, List.length_cons, List.length_drop]
    omega
  clear hLi hszi hxi hCells hFr
  go_region_with (go_at_call 41; refine hIns.mono ?_; rintro e w9 ⟨v9, rfl, ho9, hg9, hob9⟩; obtain ⟨g9, c9, hv9, -⟩ := ho9.tight (by rw [List.length_append, List.length_cons]; omega); rw [hlen9] at hv9; subst hv9; obtain ⟨k90, k91, k92, k93, k94, k95⟩ := box_cells (HIX.out.1.upd (UpdF.of_grown hg9) (fun e => by have := hHH.out.1.line.base_ _ e; omega)))
  all_goals (
    simp only [Exit.then]
    refine (by assumption : ∀ (a : Act) (w : World), _ → _) _ _ ?_
    have hLi := hHH.out.1.ext HXI.out
    obtain ⟨hL10, hU10⟩ := line_after hLi ho9 hg9 hob9
    have hU0 := (UpdF.of_ext HXI.out F).trans hU10
    have hsz10 := hU10.size
    rw [HSZ.out.1] at hsz10 hob9
    have hw8z := HSZ.out.2
    have hF1 : ∀ i, F i ∨ (Value.slice (some ⟨g9, 0, none⟩) (S.L.length + 1) c9).ownBlock = some i → F i ∨ w.heap.size < i := fun i hi => by
      rcases hi with hi | hi
      · exact .inl hi
      · rcases hob9 with h | h
        · rw [h] at hi; exact .inl (hHH.out.1.fl i hi)
        · rw [h] at hi; injection hi with hi; right; have := HXI.out.size; rw [HSZ.out.1] at this; have := HWZ.out; omega
    have hF2 : ∀ i, F i ∨ (Value.slice (some ⟨g9, 0, none⟩) (S.L.length + 1) c9).ownBlock = some i → i < (w9.setCell ⟨b + 2, 2, none⟩ (.slice (some ⟨g9, 0, none⟩) (S.L.length + 1) c9)).heap.size := fun i hi => by
      rcases hi with hi | hi
      · have := hHH.out.2.1 i hi; have := HWZ.out; omega
      · exact (own_lt hL10.line hi).2
    have hSt := hHH.out.2.2 _ _ _ hL10 hF2
    have hB10 := (hB6 _ (hx7.trans hx8)).ext ((Ext.refl w8).drew.alloc (.cells #[.int .i64 u, .string n, .int .i64 m, .bool true] 75))
    have hB11 := hB10.upd hU10 (fun e => by have := hHH.out.2.1 _ e; omega)
    have HQ := Lib.hid (And.intro hL10 (And.intro hU0 (And.intro hF1 (And.intro hB11 hsz10))))
    clear hL10 hU0 hF1 hB11 hB10 hU10 hLi hF2 ho9 hg9 hob9
    go_wp2_with (go_at_call 42; refine hSt.mono ?_; rintro e w11 ⟨vv, vg, rfl, hov, hog, hpost⟩; obtain ⟨Pv, nv, cv, rfl⟩ := own_slice hov; obtain ⟨Pg, ng, cg, rfl⟩ := own_slice hog; obtain ⟨c0, c1, c2, f0, f1, f2⟩ := box_cells (HQ.out.2.2.2.1.upd hpost.choose_spec.choose_spec.2.2.1 (fun e => by
      rcases HQ.out.2.2.1 _ e with h | h
      · have := hHH.out.2.1 _ h; omega
      · omega)))
    have hb := box3_set (HQ.out.2.2.2.1.upd hpost.choose_spec.choose_spec.2.2.1 (fun e => by
      rcases HQ.out.2.2.1 _ e with h | h
      · have := hHH.out.2.1 _ h; omega
      · omega)) (.bool a.1) (.slice Pv nv cv) (.slice Pg ng cg)
    refine bodyPost_ret (ask_end w.heap.size _ _ _ _ _ _ rfl rfl (hb.cell (i := 0) rfl) (hb.cell (i := 1) rfl) (hb.cell (i := 2) rfl)) rfl ?_
    exact ⟨_, rfl, line_final hHH.out.2.1 HQ.out.2.2.1 HQ.out.2.1 (by have := HQ.out.2.2.2.2; have := HWZ.out; omega) hov hog hpost (.bool a.1) (.slice Pv nv cv) (.slice Pg ng cg)⟩)
end
section
open Go.RowKit Go.Maps
set_option linter.unusedVariables false
set_option linter.unusedSimpArgs false
set_option linter.unusedSectionVars false
set_option maxRecDepth 100000
attribute [local go_sem] Oper.semAt_some

theorem lkok_of {S : LkSt} (h : ∀ e, e ∈ S.H ∨ e ∈ S.L → GrOk e.1 ∧ 1 ≤ e.1.1 ∧ e.1.1 ≤ 1000) (h1 : S.H.length ≤ 100000) (h2 : S.L.length ≤ 100000) : LkOk S :=
  ⟨fun e he => (h e (.inl he)).1, fun e he => (h e (.inr he)).1, h1, h2, fun x hx => by
    rcases hx with ⟨b, hx⟩ | ⟨b, hx⟩
    · exact (h _ (.inl hx)).2
    · exact (h _ (.inr hx)).2⟩
def awA : ByteArray := ⟨#[97]⟩
def awX : ByteArray := ⟨#[97, 47, 120]⟩
def awH : HeldL := [((1, awA, 2), false)]
def awL : LineL := [((2, awX, 3), false)]
theorem gr_one (u m : Int) (n : ByteArray) (c : Bool) (hm : modeN m = true) (hn : n.size ≤ 1000000) (hu : 1 ≤ u ∧ u ≤ 1000) : ∀ e : Gr × Bool, e ∈ [((u, n, m), c)] → GrOk e.1 ∧ 1 ≤ e.1.1 ∧ e.1.1 ≤ 1000 := fun e he => by
  rw [List.mem_singleton] at he
  subst he
  exact ⟨⟨hm, hn⟩, hu⟩
theorem aw_ok0 : LkOk ⟨[], []⟩ := lkok_of (fun e he => by rcases he with he | he <;> cases he) (by decide) (by decide)
theorem aw_ok1 : LkOk ⟨awH, []⟩ := lkok_of (fun e he => by
  rcases he with he | he
  · exact gr_one 1 2 awA false (by decide) (by decide) (by decide) e he
  · cases he) (by decide) (by decide)
theorem aw_ok2 : LkOk ⟨awH, awL⟩ := lkok_of (fun e he => by
  rcases he with he | he
  · exact gr_one 1 2 awA false (by decide) (by decide) (by decide) e he
  · exact gr_one 2 3 awX false (by decide) (by decide) (by decide) e he) (by decide) (by decide)
theorem aw_circ : circF (edgeF awH [] awL) 2 = none := by decide +kernel
theorem lawake_1 (W : World) {F : Nat → Prop} {b : Nat} (h : LockS W F b (.slice none 0 0) ⟨[], []⟩) :
    Calls Tryd.prog 16 #[.pointer (some ⟨b + 2, 0, none⟩), .int .i64 1, .string awA, .int .i64 2] W fun e w' => e = .returned (.tuple #[.agg #[.bool true, .slice none 0 0, .slice none 0 0], .int .i64 0]) ∧ LockS w' F b (.slice none 0 0) ⟨awH, []⟩ ∧ UpdF (fun i => i = b ∨ i = b + 1) W w' :=
  lask_free_no 1 2 awA W h aw_ok0 (by decide) (by decide +kernel) (by decide) (by decide) ⟨by decide, by decide⟩ (by decide) (by decide) (by decide)
theorem lawake_2 (W : World) {F : Nat → Prop} {b : Nat} (h : LockS W F b (.slice none 0 0) ⟨awH, []⟩) (hF : ∀ i, F i → i < W.heap.size) :
    Calls Tryd.prog 16 #[.pointer (some ⟨b + 2, 0, none⟩), .int .i64 2, .string awX, .int .i64 3] W fun e w' => ∃ val, e = .returned (.tuple #[val, .int .i64 0]) ∧ AskV w' W.heap.size (false, [], []) val ∧ LkPost W F b w' ⟨awH, awL⟩ :=
  lask_line_no 2 3 awX W h aw_ok1 (by decide) (by decide +kernel) (by decide) (by decide) ⟨by decide, by decide⟩ (by decide +kernel) (by decide) (by decide +kernel) hF (false, [], []) ⟨awH, awL⟩ (fun W2 F2 v2 h2 hF2 => by
    refine (lsettle_none 2 W2 h2 aw_ok2 (by unfold UnitsN; decide) aw_circ).mono ?_
    rintro e w' ⟨rfl, hx⟩
    exact ⟨_, _, rfl, OwnG.nil _ _ _ _ _, OwnG.nil _ _ _ _ _, F2, v2, h2.ext hx, fun i hi => Nat.lt_of_lt_of_le (hF2 i hi) hx.size, UpdF.of_ext hx _, fun i hi => .inl hi⟩)
theorem lawake_3 (W : World) {F : Nat → Prop} {b : Nat} {v : Value} (h : LockS W F b v ⟨awH, awL⟩) :
    Calls Tryd.prog 16 #[.pointer (some ⟨b + 2, 0, none⟩), .int .i64 1, .string awA, .int .i64 3] W fun e w' => e = .returned (.tuple #[.agg #[.bool true, .slice none 0 0, .slice none 0 0], .int .i64 0]) ∧ LockS w' F b v ⟨giveG awH (1, awA, 3), awL⟩ ∧ UpdF (fun i => i = b ∨ i = b + 1) W w' :=
  lask_free_in 1 3 awA W h aw_ok2 (by decide) (by decide +kernel) (by decide) (by decide) ⟨by decide, by decide⟩ 2 (by decide +kernel) (by decide) (by decide) (by decide +kernel)
set_option maxHeartbeats 2000000 in
theorem awake_any (w : World) : Calls Tryd.prog 5 #[] w fun e w' => e = .returned (.bool true) ∧ Ext w w' := by
  have h1 := fun W => lawake_1 W (F := fun k => w.heap.size ≤ k ∧ k < w.heap.size + 3) (b := w.heap.size)
  have h2 := fun W => lawake_2 W (F := fun k => w.heap.size ≤ k ∧ k < w.heap.size + 3) (b := w.heap.size)
  have h3 := fun W F v => lawake_3 W (F := F) (b := w.heap.size) (v := v)
  unfold awA at h1 h3
  unfold awX at h2
  go_enter Tryd.func5, Tryd.ntmps5
  go_wp2_with (first
    | (go_at_call 15; refine (lnew_any _).mono ?_; rintro e w0 ⟨rfl, hL0, hx0⟩)
    | (go_at_call 16; refine (h1 w0 hL0).mono ?_; clear h1; rintro e w1 ⟨rfl, hL1, hU1⟩; have hLa := hL1.ext ((Ext.refl w1).alloc (.cells #[.bool true, .slice none 0 0, .slice none 0 0] 39)); have hFa : ∀ i, (w.heap.size ≤ i ∧ i < w.heap.size + 3) → i < (w1.alloc (.cells #[.bool true, .slice none 0 0, .slice none 0 0] 39)).heap.size := fun i hi => by have := hLa.box.lt; omega)
    | (go_at_call 16; refine (h2 _ hLa hFa).mono ?_; clear h2; rintro e w2 ⟨val, rfl, ⟨vv, vg, rfl, hov, hog⟩, ⟨F2, v2, hL2, hF2, hU2, hN2⟩⟩; obtain ⟨Pv, nv, cv, rfl⟩ := own_slice hov; obtain ⟨Pg, ng, cg, rfl⟩ := own_slice hog; have hLb := hL2.ext ((Ext.refl w2).alloc (.cells #[.bool false, .slice Pv nv cv, .slice Pg ng cg] 39)))
    | (go_at_call 16; refine (h3 _ _ _ hLb).mono ?_; clear h3; rintro e w3 ⟨rfl, hL3, hU3⟩; have hz1 := hL1.box.lt; have hz2 := hL2.box.lt; have hs2 := hU2.size; rw [World.size_alloc] at hs2; have B2 := (((BoxN.new w1 39 #[.bool true, .slice none 0 0, .slice none 0 0]).upd hU2 (by omega)).ext ((Ext.refl w2).alloc (.cells #[.bool false, .slice Pv nv cv, .slice Pg ng cg] 39))).upd hU3 (by omega); have B4 := (BoxN.new w2 39 #[.bool false, .slice Pv nv cv, .slice Pg ng cg]).upd hU3 (by omega); obtain ⟨kc2, -, -, -, -, -⟩ := box_cells (B2.ext ((Ext.refl w3).alloc (.cells #[.bool true, .slice none 0 0, .slice none 0 0] 39))); obtain ⟨kc4, -, -, -, -, -⟩ := box_cells (B4.ext ((Ext.refl w3).alloc (.cells #[.bool true, .slice none 0 0, .slice none 0 0] 39))); obtain ⟨kc6, -, -, -, -, -⟩ := box_cells (BoxN.new w3 39 #[.bool true, .slice none 0 0, .slice none 0 0]); have hLc := hL3.ext ((Ext.refl w3).alloc (.cells #[.bool true, .slice none 0 0, .slice none 0 0] 39)))
    | (go_at_call 17; refine (lline_any _ hLc (by decide)).mono ?_; rintro e w7 ⟨⟨v7, rfl, ho7⟩, hx7⟩; obtain ⟨P7, c7, rfl, -⟩ := ho7.slG elemGr (by decide))
    | (refine ⟨trivial, ?_⟩) | (with_reducible refine And.intro (fun _ hf => (by cases hf)) ?_))
  go_ret
  refine ⟨rfl, ?_⟩
  have e1 : Ext w w1 := UpdF.ext hx0 hU1 (fun i hi => by omega)
  have e2 : Ext w w2 := UpdF.ext (e1.alloc _) hU2 (fun i hi => hi.1)
  have e3 : Ext w w3 := UpdF.ext (e2.alloc _) hU3 (fun i hi => by omega)
  exact (e3.alloc _).trans hx7
end
end Go.Proofs.YtaciedooeeklpaaDoor
