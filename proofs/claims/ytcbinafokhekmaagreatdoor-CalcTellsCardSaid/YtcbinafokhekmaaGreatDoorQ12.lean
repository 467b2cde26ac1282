/- CaR; Map; CaS; ItOA (merged by group.py) -/
import Derived.Test.YtcbinafokhekmaaGreatDoorQ11
import Derived.Test.YtcbinafokhekmaaGreatDoorQ00
import Derived.Maps.OwnSet
import Derived.Test.YtcbinafokhekmaaGreatDoorQ06
import Derived.Test.YtcbinafokhekmaaGreatDoorShelf
import Derived.Test.YtcbinafokhekmaaGreatDoorQ04
import Derived.Test.YtcbinafokhekmaaGreatDoorQ05
import Derived.Laws.Cover1
import Derived.Deep.RegionHeld3
namespace Go.Proofs.YtcbinafokhekmaaGreatDoor
section
open Go.RowKit
set_option linter.unusedVariables false
set_option linter.unusedSimpArgs false
set_option linter.unusedSectionVars false
set_option maxRecDepth 100000
attribute [local go_sem] Oper.semAt_some

theorem UpdF.of_upd {w w' : World} {g : Nat} (h : Upd w g w') : UpdF (fun i => i = g) w w' := (UpdF.of_grown h).mono (fun i hi => by injection hi with hi; exact hi.symm)
theorem CtR.upd {F : Nat → Prop} {w w' : World} {t : Nat} {h r : Int} {P : Option Addr} {c : Nat} {l : List BkR} (H : CtR w t h r P c l) (hu : UpdF F w w') (ht : ¬ F t) (ho : OffB F P l) : CtR w' t h r P c l := ⟨H.box.upd hu ht, H.sl.upd hu ho⟩
theorem RunK.upd {F : Nat → Prop} {w w' : World} {c1 c2 t : Nat} {n h r : Int} {P : Option Addr} {c : Nat} {l : List BkR} (H : RunK c1 c2 t n h r P c l w) (hu : UpdF F w w') (h1 : ¬ F c1) (h2 : ¬ F c2) (ht : ¬ F t) (ho : OffB F P l) : RunK c1 c2 t n h r P c l w' :=
  ⟨hu.cell H.hm h1, hu.cell H.tb h2, H.ct.upd hu ht ho⟩
theorem Boxed.upd {F : Nat → Prop} {w w' : World} {b : Nat} {T : TypeId} {v : Value} (h : Boxed w b T v) (hu : UpdF F w w') (hf : ¬ F b) : Boxed w' b T v := hu.heap h hf
theorem seqP_of {P : Program} {g : Nat} {lb : Array Value} {encs : Nat → Array Value} {N : Nat} {Kp Kq : World → Prop} (h : SeqP P g lb encs N Kp) (hk : ∀ A, Kq A → Kp A) : SeqP P g lb encs N Kq :=
  fun l J Jx Jp W h1 h2 h3 h4 h5 => h l J Jx Jp W h1 h2 (fun i A hA => hk A (h3 i A hA)) h4 h5
/-- the buckets of a run, in order -/
theorem runlist_any (t : Nat) (n h r : Int) (P : Option Addr) (c : Nat) (l : List BkR) (p : List Nat) (c1 c2 : Nat) (hw : Way (absT l) n p) (hp : p.length ≤ 1000) (w : World) (hK : RunK c1 c2 t n h r P c l w) :
    Calls Tryz.prog 51 #[.func (.func 86) #[] #[.pointer (some ⟨c1, 0, none⟩), .pointer (some ⟨c2, 0, none⟩)]] w fun e w' => (∃ v, e = .returned v ∧ OwnI w' w.heap.size v (ints p)) ∧ Ext w w' := by
  have hS := run_seq c1 c2 t n h r P c l p hw
  have := collect_any _ _ (fun i => ((atP p i : Nat) : Int)) p.length (fun A => Ext w A) (seqP_of hS (fun A hA => hK.ext hA)) (enters_of Tryz.func86 (by kernel_rfl) rfl) (by omega) w (Ext.refl w) (fun A B hb hA => Below.trans hA hb)
  have e : (List.range p.length).map (fun i => ((atP p i : Nat) : Int)) = ints p := by
    refine List.ext_getElem? fun i => ?_
    unfold ints
    by_cases hi : i < p.length
    · simp [hi, atP, List.getD_eq_getElem?_getD]
    · rw [List.getElem?_eq_none (by simp; omega), List.getElem?_eq_none (by simp; omega)]
  rw [e] at this
  exact this
set_option maxHeartbeats 4000000 in
theorem entries_any (t : Nat) (n h r : Int) (P : Option Addr) (c : Nat) (l : List BkR) (p : List Nat) (w : World) (H : CtR w t h r P c l) (hw : Way (absT l) n p) (hp : p.length ≤ 1000) (he : (entR l p).length ≤ 100000) :
    Calls Tryz.prog 50 #[.pointer (some ⟨t, 0, none⟩), .int .i64 n] w fun e w' => (∃ v, e = .returned v ∧ OwnG csHd 56 2 w' w.heap.size v (entR l p)) ∧ Ext w w' := by
  have HLT := Lib.hid (way_lt hw)
  have hS := run_seq (w.heap.size + 3) (w.heap.size + 2) t n h r P c l p hw
  have hoff := H.sl.lt
  have htlt := H.box.lt
  refine calls_of_wpAt Tryz.func50 rfl ?_
  simp only [Tryz.ntmps50, List.size_toArray, List.length_cons, List.length_nil, Nat.reduceAdd, Nat.reduceSub, Array.replicate_succ, Array.replicate_zero, List.push_toArray, List.append_toArray, List.nil_append, List.cons_append]
  refine wpAt_seq_k (fun K hK => ?_)
  go_wp2
  refine wpAt_seq_k (fun K hK => ?_)
  go_wp2
  obtain ⟨W0, hW0⟩ : ∃ W0, (w.alloc (.cells #[.pointer (some ⟨t, 0, none⟩)] 25)).alloc (.cells #[.slice none 0 0] 42) = W0 := ⟨_, rfl⟩
  have hx0 : Ext w W0 := hW0 ▸ ((Ext.refl w).alloc _).alloc _
  have hs0 : W0.heap.size = w.heap.size + 2 := by rw [← hW0]; simp
  have bt0 : Boxed W0 w.heap.size 25 (.pointer (some ⟨t, 0, none⟩)) := hW0 ▸ (Boxed.new _ _ _).alloc _
  have bo0 : Boxed W0 (w.heap.size + 1) 42 (.slice none 0 0) := by
    have := Boxed.new (w.alloc (.cells #[.pointer (some ⟨t, 0, none⟩)] 25)) 42 (.slice none 0 0)
    rw [World.size_alloc] at this
    exact hW0 ▸ this
  try rw [hW0]
  clear hW0
  have k0 := bt0.cell
  refine wpAt_seq ?_
  refine wpAt_seq_k (fun K hK => ?_)
  go_wp2_with (go_at_call 52; refine (run_any t n _).mono ?_; rintro e W2 ⟨rfl, rfl⟩)
  obtain ⟨W2, hW2⟩ : ∃ W2, (W0.alloc (.cells #[.pointer (some ⟨t, 0, none⟩)] 25)).alloc (.cells #[.int .i64 n] 3) = W2 := ⟨_, rfl⟩
  have hx2 : Ext W0 W2 := hW2 ▸ ((Ext.refl W0).alloc _).alloc _
  have hs2 : W2.heap.size = w.heap.size + 4 := by rw [← hW2]; simp [hs0]
  have b2 : Boxed W2 (w.heap.size + 2) 25 (.pointer (some ⟨t, 0, none⟩)) := by
    have := (Boxed.new W0 25 (.pointer (some ⟨t, 0, none⟩))).alloc (.cells #[.int .i64 n] 3)
    rw [hs0] at this
    exact hW2 ▸ this
  have b3 : Boxed W2 (w.heap.size + 3) 3 (.int .i64 n) := by
    have := Boxed.new (W0.alloc (.cells #[.pointer (some ⟨t, 0, none⟩)] 25)) 3 (.int .i64 n)
    rw [World.size_alloc, hs0] at this
    exact hW2 ▸ this
  have hR2 : RunK (w.heap.size + 3) (w.heap.size + 2) t n h r P c l W2 := ⟨b3.cell, b2.cell, H.ext (hx0.trans hx2)⟩
  replace bt0 : Boxed W2 _ _ _ := hx2.heap bt0
  replace bo0 : Boxed W2 _ _ _ := hx2.heap bo0
  rw [hW2]
  have hxw := hx0.trans hx2
  clear hW2 hx2 b2 b3 hx0 hs0 k0
  have HR2 := Lib.hid hs2
  refine wpAt_block ?_
  refine wpAt_rangeFunc2 (hf := Tryz.func50) (gf := 86) (lb := #[.pointer (some ⟨w.heap.size + 2 + 1, 0, none⟩), .pointer (some ⟨w.heap.size + 2, 0, none⟩)]) rfl (enters_of Tryz.func86 (by kernel_rfl) rfl) hS (fun _ => rfl)
    (fun i W => (∃ v, Boxed W (w.heap.size + 1) 42 v ∧ OwnG csHd 56 2 W (w.heap.size + 4) v (entR l (p.take i))) ∧ Boxed W w.heap.size 25 (.pointer (some ⟨t, 0, none⟩)) ∧ Ext w W ∧ RunK (w.heap.size + 3) (w.heap.size + 2) t n h r P c l W)
    (fun _ _ _ => False)
    (fun i ch W => False)
    (fun i A B ⟨⟨v, h1, h2⟩, h3, h4, h5⟩ hx => ⟨⟨v, hx.heap h1, h2.ext hx⟩, hx.heap h3, h4.trans hx, h5.ext hx⟩)
    (fun _ _ _ _ h _ => h)
    (fun i A r r' ⟨⟨v, h1, h2⟩, h3, h4, h5⟩ hl => ⟨⟨v, (World.putObj_heap_other (by have := HR2.out; omega)).trans h1, h2.loop hl⟩, (World.putObj_heap_other (by have := HR2.out; omega)).trans h3, Upd.ext h4 (grownBy_putObj' _ _ _) (by have := HR2.out; omega), h5.upd (UpdF.of_upd (grownBy_putObj' _ _ _)) (by have := HR2.out; omega) (by have := HR2.out; omega) (by have := HR2.out; omega) (hoff.mono (fun i hi => by have := HR2.out; omega))⟩)
    (fun _ _ _ _ _ h _ => h)
    (fun i A h => h.2.2.2)
    ⟨⟨_, bo0, OwnG.nil _ _ _ _ _⟩, bt0, hxw, hR2⟩ ?round ?done (fun _ _ _ _ h _ => h.elim) (fun _ _ _ _ h _ => h.elim)
  case round =>
    rintro i W r0 ⟨⟨v, h1, h2⟩, h3, h4, h5⟩ hW hD hL hi
    have hr2 := HR2.out
    gi_wp2
    refine ⟨trivial, trivial, ?_⟩
    rintro W5 r' hW5
    have hL5 : W5.heap[W2.heap.size + 1]? = some (.loop r') := by rw [hW5]; exact World.putObj_heap_same (by omega)
    have hD5 : W5.heap[W2.heap.size]? = some (.deferred (some [])) := by rw [hW5, World.putObj_heap_other (by omega)]; exact hD
    replace h5 : RunK (w.heap.size + 3) (w.heap.size + 2) t n h r P c l W5 := by rw [hW5]; exact h5.upd (UpdF.of_upd (grownBy_putObj' _ _ _)) (by omega) (by omega) (by omega) (hoff.mono (fun i hi => by omega))
    replace h2 : OwnG csHd 56 2 W5 (w.heap.size + 4) v (entR l (p.take i)) := hW5 ▸ h2.loop hL
    replace h1 : Boxed W5 (w.heap.size + 1) 42 v := by rw [hW5]; exact (World.putObj_heap_other (by omega)).trans h1
    replace h3 : Boxed W5 w.heap.size 25 (.pointer (some ⟨t, 0, none⟩)) := by rw [hW5]; exact (World.putObj_heap_other (by omega)).trans h3
    replace h4 : Ext w W5 := by rw [hW5]; exact Upd.ext h4 (grownBy_putObj' _ _ _) (by omega)
    clear hW5 hD hL
    have hbl : atP p i < l.length := by
      have := HLT.out (atP p i) (List.mem_of_getElem? (atP_some hi))
      rwa [absT_len] at this
    have hent := h5.ct.sl.ent _ (nthBk_mem hbl)
    obtain ⟨b, off, hP, g0, g1⟩ := h5.ct.sl.at_ (atP p i) hbl
    subst hP
    have HTK := Lib.hid (show entR l (p.take (i + 1)) = entR l (p.take i) ++ (nthBk l (atP p i)).1.2.2 from entR_snoc l hi)
    have HTL := Lib.hid (show (entR l (p.take i)).length + (nthBk l (atP p i)).1.2.2.length ≤ 100000 from by
      have := entR_le l p (i + 1)
      rw [show entR l (p.take (i + 1)) = entR l (p.take i) ++ (nthBk l (atP p i)).1.2.2 from entR_snoc l hi, List.length_append] at this
      omega)
    have hofe := hoff.ent _ (nthBk_mem hbl)
    generalize atP p i = q at *
    generalize nthBk l q = B at *
    obtain ⟨⟨Pe, ce, le⟩, nx⟩ := B
    simp only at g0 hent HTL HTK hofe
    have cq1 : (q : Int) < l.length := by omega
    have cq0 : (0 : Int) ≤ (q : Int) := by omega
    have s1 : W5.drew.cell? ⟨w.heap.size + 1, 0, none⟩ = some v := h1.cell
    have s2 : W5.drew.cell? ⟨w.heap.size, 0, none⟩ = some (.pointer (some ⟨t, 0, none⟩)) := h3.cell
    have s3 : W5.drew.cell? ⟨t, 2, none⟩ = some (.slice (some ⟨b, off, none⟩) l.length c) := h5.ct.box.cell (i := 2) rfl
    have s4 : W5.drew.cell? ⟨b, off + q * 2, none⟩ = some (.slice Pe le.length ce) := g0
    clear g0 g1
    gi_wp2
    refine wpIn_round_held (fun W' => W'.cell? ⟨w.heap.size, 0, none⟩ = some (.pointer (some ⟨t, 0, none⟩)) ∧ W'.cell? ⟨t, 2, none⟩ = some (.slice (some ⟨b, off, none⟩) l.length c) ∧ W'.cell? ⟨b, off + q * 2, none⟩ = some (.slice Pe le.length ce)) (by kernel_rfl) (by rintro ⟨a, w, h⟩; exact h) (by kernel_rfl) ?_
    refine wpAnyH_take (i := 1) (v := .pointer (some ⟨t, 0, none⟩)) (fuel := 10) rfl (by kernel_rfl) (by kernel_rfl) (by kernel_rfl) (fun _ _ _ h => h) (.inl ⟨rfl, fun W hS => by obtain ⟨e2, e3, e4⟩ := hS; go_simp⟩) ⟨s2, s3, s4⟩ ?_
    refine wpAnyH_take (i := 2) (v := .pointer (some ⟨t, 0, none⟩)) (fuel := 9) rfl (by kernel_rfl) (by kernel_rfl) (by kernel_rfl) (fun _ _ _ h => h) (.inl ⟨rfl, fun W hS => by obtain ⟨e2, e3, e4⟩ := hS; go_simp⟩) ⟨s2, s3, s4⟩ ?_
    refine wpAnyH_take (i := 3) (v := .pointer (some ⟨t, 2, none⟩)) (fuel := 8) rfl (by kernel_rfl) (by kernel_rfl) (by kernel_rfl) (fun _ _ _ h => h) (.inl ⟨rfl, fun W hS => by obtain ⟨e2, e3, e4⟩ := hS; go_simp⟩) ⟨s2, s3, s4⟩ ?_
    refine wpAnyH_take (i := 4) (v := .slice (some ⟨b, off, none⟩) l.length c) (fuel := 7) rfl (by kernel_rfl) (by kernel_rfl) (by kernel_rfl) (fun _ _ _ h => h) (.inl ⟨rfl, fun W hS => by obtain ⟨e2, e3, e4⟩ := hS; go_simp⟩) ⟨s2, s3, s4⟩ ?_
    refine wpAnyH_take (i := 5) (v := .int .i64 (q : Nat)) (fuel := 6) rfl (by kernel_rfl) (by kernel_rfl) (by kernel_rfl) (fun _ _ _ h => h) (.inl ⟨rfl, fun W hS => by obtain ⟨e2, e3, e4⟩ := hS; go_simp⟩) ⟨s2, s3, s4⟩ ?_
    refine wpAnyH_take (i := 6) (v := .pointer (some ⟨b, off + q * 2, none⟩)) (fuel := 5) rfl (by kernel_rfl) (by kernel_rfl) (by kernel_rfl) (fun _ _ _ h => h) (.inl ⟨rfl, fun W hS => by obtain ⟨e2, e3, e4⟩ := hS; go_simp⟩) ⟨s2, s3, s4⟩ ?_
    refine wpAnyH_take (i := 7) (v := .pointer (some ⟨b, off + q * 2, none⟩)) (fuel := 4) rfl (by kernel_rfl) (by kernel_rfl) (by kernel_rfl) (fun _ _ _ h => h) (.inl ⟨rfl, fun W hS => by obtain ⟨e2, e3, e4⟩ := hS; go_simp⟩) ⟨s2, s3, s4⟩ ?_
    refine wpAnyH_take (i := 8) (v := .slice Pe le.length ce) (fuel := 3) rfl (by kernel_rfl) (by kernel_rfl) (by kernel_rfl) (fun _ _ _ h => h) (.inl ⟨rfl, fun W hS => by obtain ⟨e2, e3, e4⟩ := hS; go_simp⟩) ⟨s2, s3, s4⟩ ?_
    refine wpAnyH_one (i := 0) (fuel := 2) rfl (by kernel_rfl) rfl fun K' hK => ?_
    go_simp
    refine hK _ _ ⟨s2, s3, s4⟩ ?_
    clear hK K'
    have hb0 := hoff.own (fun e => by rw [e] at hbl; simp at hbl) b off rfl
    have hD1 := h2.not_loop hD5 (fun c e => by cases e)
    have hL1 := h2.not_loop hL5 (fun c e => by cases e)
    have hown : ∀ g, v.ownBlock = some g → w.heap.size + 4 ≤ g := fun g hg => (own_lt h2 hg).1
    have hszW := h4.size
    have hD5l := (Array.getElem?_eq_some_iff.1 hD5).1
    have hL5l := (Array.getElem?_eq_some_iff.1 hL5).1
    refine wpAnyH_one (i := 9) (fuel := 1) rfl (by kernel_rfl) rfl fun K' hK => ?_
    refine wpAppU_step (ops := #[]) elemHd (.tmp 11) (.tmp 19) rfl (v := v) (base := w.heap.size + 4) rfl (h2.ext (Ext.refl _).drew) (m := le) rfl (hent.sl.ext (Ext.refl _).drew) hent.nil (by have := HTL.out; omega) (by have := HTL.out; omega) (by show w.heap.size + 4 ≤ W5.heap.size; omega) ?_
    intro v7 w7 ho7 hg7 hb7 hob7
    have hu7 : UpdF (fun i => v.ownBlock = some i) W5.drew w7 := UpdF.of_grown hg7
    have hx7 : Ext w w7 := hu7.ext h4.drew (fun i hi => by have := hown i hi; omega)
    have t2 := hu7.cell s2 (fun e => by have := hown _ e; simp only at this; omega)
    have t3 := hu7.cell s3 (fun e => by have := hown _ e; simp only at this; omega)
    have t4 := hu7.cell s4 (fun e => by have := hown _ e; simp only at this; omega)
    have hR7 := (h5.ext (Ext.refl _).drew).upd hu7 (fun e => by have := hown _ e; omega) (fun e => by have := hown _ e; omega) (fun e => by have := hown _ e; omega) (hoff.mono (fun i hi => by have := hown i hi; omega))
    have k1 : Boxed w7 (w.heap.size + 1) 42 v := hu7.heap h1 (fun e => by have := hown _ e; omega)
    have k3 : Boxed w7 w.heap.size 25 (.pointer (some ⟨t, 0, none⟩)) := hu7.heap h3 (fun e => by have := hown _ e; omega)
    have hD7 : w7.heap[W2.heap.size]? = some (.deferred (some [])) := hu7.heap hD5 (fun e => hD1.elim (fun h => by rw [h] at e; cases e) (fun h => h e))
    have hL7 : w7.heap[W2.heap.size + 1]? = some (.loop r') := hu7.heap hL5 (fun e => hL1.elim (fun h => by rw [h] at e; cases e) (fun h => h e))
    refine hK _ _ ⟨t2, t3, t4⟩ ?_
    clear hK K'
    have q7 := k1.cell
    have f7 := k1.frozen
    obtain ⟨P7, c7, rfl, _⟩ := ho7.read elemHd (by have := HTL.out; simp; omega)
    have HTL2 := Lib.hid (show (entR l (p.take i) ++ le).length ≤ 100000 from by rw [List.length_append]; exact HTL.out)
    generalize (entR l (p.take i) ++ le).length = n7 at *
    refine wpAnyH_one (i := 10) (fuel := 0) rfl (by kernel_rfl) rfl fun K' hK => ?_
    go_simp
    have hu8 : UpdF (fun i => i = w.heap.size + 1) w7 (w7.setCell ⟨w.heap.size + 1, 0, none⟩ (.slice P7 n7 c7)) := (UpdF.refl (fun i => i = w.heap.size + 1) w7).setCell (p := ⟨w.heap.size + 1, 0, none⟩) (.inl rfl) (.slice P7 n7 c7)
    refine hK _ _ ⟨hu8.cell t2 (by simp), hu8.cell t3 (by simp only; omega), hu8.cell t4 (by simp only; omega)⟩ ?_
    clear hK K'
    refine wpAnyH_done (by kernel_rfl) ?_ 0
    refine ⟨(hu8.heap hD7 (by omega)).trans hD5.symm, (hu8.heap hL7 (by omega)).trans hL5.symm, ⟨_, k1.set _, ?_⟩, hu8.heap k3 (by omega), hu8.ext hx7 (fun i hi => by omega), hR7.upd hu8 (by omega) (by omega) (by omega) (hoff.mono (fun i hi => by omega))⟩
    rw [HTK.out]
    exact ho7.upd hu8 (fun g hg e => by have := (own_lt ho7 hg).1; omega)
  case done =>
    rintro W ⟨⟨v, h1, h2⟩, h3, h4, h5⟩ hD
    have hc := h1.cell
    rw [HR2.out] at hD
    rw [List.take_length] at h2
    refine wpAt_of_wp ?_
    go_wp2
    refine ⟨by simp, .inl ⟨_, _, rfl, run_takeDeferred hD, ?_⟩⟩
    refine ⟨_, results_tmp rfl _ _ _, ⟨_, rfl, ?_⟩, ?_⟩
    · refine OwnG.down (base := w.heap.size + 4) (h2.kept (row := some (w.heap.size + 4)) (grownBy_putObj' _ _ _) (h2.not_loop hD (fun c e => by cases e))) (by omega)
    · exact Upd.ext h4 (grownBy_putObj' _ _ _) (by omega)
end
section
open Go.RowKit Go.Maps
set_option linter.unusedVariables false
set_option maxRecDepth 20000

/-- block b is a map of bools in which just the keys l are true, and no others are -/
def MetG {α : Type} [DecidableEq α] (mk : α → Lit) (P : Program) (k e : TypeId) (w : World) (b : Nat) (l : List α) : Prop :=
  ∃ (D : DataW Unit) (n : Nat), n ≤ l.length ∧ w.ownsMap P k (plainElem P e) b n D ∧ (∀ x, has D (mk x) = decide (x ∈ l)) ∧ (∀ x, x ∈ l → ∀ z, D.atKey (mk x) z = .lit (.bool true)) ∧ (l.Nodup → size D = l.length)
section
variable {α : Type} [DecidableEq α] {mk : α → Lit} {P : Program} {k e : TypeId} {w : World} {b : Nat} {l : List α}
theorem MetG.made (w : World) : MetG mk P k e (w.alloc (.map #[] 0)) w.heap.size [] :=
  ⟨.map [], 0, by simp, World.ownsMap_made _ _ _ _, fun x => by simp [has], fun x h => by simp at h, fun _ => rfl⟩
theorem MetG.lt (h : MetG mk P k e w b l) : b < w.heap.size := by obtain ⟨D, n, _, h, _⟩ := h; exact h.lt
theorem MetG.kept {w' : World} {row : Option Nat} (h : MetG mk P k e w b l) (hg : w.grownBy w' row) (hne : some b ≠ row) : MetG mk P k e w' b l := by
  obtain ⟨D, n, hn, h, r⟩ := h
  exact ⟨D, n, hn, h.kept hg hne, r⟩
theorem MetG.same {w' : World} (h : MetG mk P k e w b l) (he : w'.heap[b]? = w.heap[b]?) : MetG mk P k e w' b l := by
  obtain ⟨D, n, hn, ⟨es, clock, hb, r'⟩, r⟩ := h
  exact ⟨D, n, hn, ⟨es, clock, he.trans hb, r'⟩, r⟩
theorem MetG.ext {w' : World} (h : MetG mk P k e w b l) (he : Ext w w') : MetG mk P k e w' b l := h.same (he.block h.lt)

theorem MetG.look (h : MetG mk P k e w b l) (K : Keyed P k) {t : TypeId} (ht : P.underlying t = some (.map k e)) (he : P.underlying e = some .bool) (hz : (zeroValue e).run P w = .ok (.bool false) w) {key : Value} {x : α} (hkey : keyOf P k key = some (mk x)) :
    (Instr.lookup t (.map (some b)) key false).run P w = .ok (.bool (decide (x ∈ l))) w := by
  obtain ⟨D, n, hn, hown, hh, ht', hs⟩ := h
  obtain ⟨v, ps, hrun, hv⟩ := hown.lookup K ht hz (plainElem_bool he false) hkey
  have hd : D.atKey (mk x) (.lit (.bool false)) = .lit (.bool (decide (x ∈ l))) := by
    by_cases hx : x ∈ l
    · rw [ht' x hx, decide_eq_true hx]
    · rw [atKey_of_not_has (by rw [hh x, decide_eq_false hx]), decide_eq_false hx]
  rw [hd] at hv
  unfold plainElem at hv
  rw [he] at hv
  cases v <;> simp at hv
  rw [hrun, hv.1]
theorem MetG.len (h : MetG mk P k e w b l) {t : TypeId} (ht : P.underlying t = some (.map k e)) (hl : l.Nodup) (ty : TypeId) : (Builtin.len_ #[t] ty #[.map (some b)]).run P w = .ok (.int .i64 l.length) w := by
  obtain ⟨D, n, hn, hown, hh, ht', hs⟩ := h
  rw [hown.len ht ty, hs hl]
theorem MetG.store (h : MetG mk P k e w b l) (K : Keyed P k) {t : TypeId} (ht : P.underlying t = some (.map k e)) (he : P.underlying e = some .bool) (hn : l.length < 9223372036854775807) (hm : ∀ x y, mk x = mk y → x = y) {key : Value} {x : α} (hk : WideAt.IsKeyLit (mk x)) (hkey : keyOf P k key = some (mk x)) :
    ∃ w', (Instr.mapUpdate t (.map (some b)) key (.bool true)).run P w = .ok () w' ∧ MetG mk P k e w' b (l ++ [x]) ∧ w.grownBy w' (some b) := by
  obtain ⟨D, n, hnl, hown, hh, ht', hs⟩ := h
  have hT := hown.tidy K
  obtain ⟨w', hrun, hown', hg⟩ := hown.update K ht (Nat.lt_of_le_of_lt hnl hn) hkey (plainElem_bool he true)
  refine ⟨w', hrun, ⟨_, n + 1, by simp; omega, hown', fun y => ?_, fun y hy z => ?_, fun hd => ?_⟩, hg⟩
  · by_cases hy : y = x
    · subst hy; rw [has_put_same hT.isMap hk]; simp
    · rw [has_put_other (fun e => hy (hm _ _ e)), hh]; simp [hy]
  · by_cases hyx : y = x
    · subst hyx; exact atKey_put_same hT.isMap hk _ _
    · rw [atKey_put_other (fun e => hyx (hm _ _ e))]
      exact ht' y (by simpa [hyx] using hy) z
  · have hd' := List.nodup_append.1 hd
    have hx : x ∉ l := fun hx => hd'.2.2 x hx x (by simp) rfl
    rw [size_put hT, hh, decide_eq_false hx, hs hd'.1]
    simp
/-- the look-up at the operation -/
theorem wpList_look_met {w : World} {ops : Array Oper} {rest : List Oper} {o : Oper} {a : Act} {Q : Exit → Act → World → Prop} (hg : o.guard = none) (m x : Operand) (t : TypeId) (hop : o.op = Op.lookup t m x false)
    {b : Nat} {l : List α} (hM : MetG mk P k e w b l) (K : Keyed P k) (ht : P.underlying t = some (.map k e)) (he : P.underlying e = some .bool) (hz : ∀ w, (zeroValue e).run P w = .ok (.bool false) w) (hm : a.eval m = .map (some b)) (key : Value) (y : α) (hx : a.eval x = key) (hkey : keyOf P k key = some (mk y))
    (r : Bool) (hr : decide (y ∈ l) = r) (hK : wpList P ops Q rest (a.put o.dst (.bool r)) w) : wpList P ops Q (o :: rest) a w := by
  refine wpList_plain hg fun K' hK' => ?_
  have hrun := hM.look K ht he (hz w) hkey
  rw [hr] at hrun
  unfold Oper.wp
  simp [execOp, hop, hm, hx, hrun, Result.andThen]
  exact hK' _ _ hK
/-- the store at the operation -/
theorem wpList_store_met {w : World} {ops : Array Oper} {rest : List Oper} {o : Oper} {a : Act} {Q : Exit → Act → World → Prop} (hg : o.guard = none) (m x v : Operand) (t : TypeId) (hop : o.op = Op.mapUpdate t m x v)
    {b : Nat} {l : List α} (hM : MetG mk P k e w b l) (K : Keyed P k) (ht : P.underlying t = some (.map k e)) (he : P.underlying e = some .bool) (hn : l.length < 9223372036854775807) (hinj : ∀ x y, mk x = mk y → x = y) (hm : a.eval m = .map (some b)) (key : Value) (y : α) (hx : a.eval x = key) (hv : a.eval v = .bool true) (hk : WideAt.IsKeyLit (mk y)) (hkey : keyOf P k key = some (mk y))
    (hK : ∀ w', MetG mk P k e w' b (l ++ [y]) → w.grownBy w' (some b) → wpList P ops Q rest (a.put o.dst undef) w') : wpList P ops Q (o :: rest) a w := by
  refine wpList_plain hg fun K' hK' => ?_
  obtain ⟨w', hrun, h1, h2⟩ := hM.store K ht he hn hinj hk hkey
  unfold Oper.wp
  simp [execOp, hop, hm, hx, hv, hrun, Result.andThen]
  exact hK' _ _ (hK w' h1 h2)
end
end
section
open Go.RowKit
set_option linter.unusedVariables false
set_option linter.unusedSimpArgs false
set_option linter.unusedSectionVars false
set_option maxRecDepth 100000
attribute [local go_sem] Oper.semAt_some

theorem CtO.start (w : World) (h r : Nat) : CtO (w.alloc (.cells #[.int .i64 h, .int .i64 r, .slice none 0 0] 87)) (fun k => k = w.heap.size) w.heap.size h r none 0 [] :=
  ⟨BoxN.new w _ _, OwnG.nil _ _ _ _ _, (fun i x hi => by simp at hi), (fun x hx => by simp at hx), rfl, (fun a ha => by cases ha), (fun i x a hi => by simp at hi), (fun i j x y a b hi => by simp at hi), (fun k hk => by subst hk; simp)⟩
set_option maxHeartbeats 4000000 in
theorem new_yes (h r : Nat) (w : World) (hB : rightB h r = true) :
    Calls Tryz.prog 32 #[.int .i64 h, .int .i64 r] w fun e w' => (∃ t P c F, e = .returned (.tuple #[.pointer (some ⟨t, 0, none⟩), .int .i64 0]) ∧ CtO w' F t h r P c (repB h) ∧ ∀ k, F k → w.heap.size ≤ k) ∧ Ext w w' := by
  have hS := fun W => sized_any (h : Int) (r : Int) W
  rw [hB] at hS
  have hh : 1 ≤ h ∧ h ≤ 100 ∧ 1 ≤ r ∧ r ≤ 20 := by have := of_decide_eq_true hB; omega
  have hst := CtO.start w h r
  have hx0 := (Ext.refl w).alloc (.cells #[.int .i64 h, .int .i64 r, .slice none 0 0] 87)
  go_enter Tryz.func32, Tryz.ntmps32
  go_wp2_with (go_at_call 54; refine (hS _).mono ?_; rintro e w1 ⟨rfl, rfl⟩)
  generalize hW : w.alloc (.cells #[.int .i64 h, .int .i64 r, .slice none 0 0] 87) = W at *
  clear hW
  go_loopw [16] (fun i wr => ∃ (j : Nat) (P : Option Addr) (c : Nat) (F : Nat → Prop), j ≤ h ∧ i = .int .i64 j ∧ CtO wr F w.heap.size h r P c (repB j) ∧ (∀ k, F k → w.heap.size ≤ k) ∧ Ext w wr) (fun i _ => h - (intOf i).toNat)
  case atStart => exact ⟨0, none, 0, _, by omega, rfl, hst, fun k hk => by omega, hx0⟩
  case round =>
    obtain ⟨j, P, c, F, hj, rfl, H, hF, hx⟩ := hrel
    by_cases hlt : j < h
    · have cj : (j : Int) < h := by omega
      have d1 : IntKind.i64.wrap ((j : Int) + 1) = (j : Int) + 1 := IntWalk.i64_in _ ⟨by omega, by omega⟩
      have a2 := H.box.cell (i := 2) rfl
      rw [repB_len] at a2
      have H1 := H.ext ((Ext.refl wr).alloc (.cells #[.slice none 0 0, .int .i64 (-1)] 54))
      have HO := Lib.hid H1
      have hown := H1.own
      rw [repB_len] at hown
      have hwr := H.box.lt
      clear hst H1 H
      go_wp2_with (at_builtin; refine wpList_app_U _ elemBk rfl _ _ rfl (base := 0) rfl hown (m := [bk0]) rfl (SlG.one elemBk.hk _ ?c1 ?c2) ?c3 ?c4 ?c5 ?c6 ?_)
      all_goals first
        | rfl
        | (intro e; cases e; done)
        | (simp; done)
        | (rw [repB_len]; simp; omega; done)
        | (simp; omega; done)
        | skip
      intro v7 w7 ho7 hg7 hb7 hob7
      obtain ⟨P7, c7, F', rfl, e7, f7, H7, g1, g2, g3⟩ := HO.out.push ho7 (by rw [repB_len]; exact hg7) (by rw [repB_len]; simpa using hob7) (by rw [repB_len]; omega)
      rw [repB_len] at e7 H7 g3
      rw [show (repB j ++ [((none, 0, []), -1)] : List BkR) = repB (j + 1) from (repB_succ j).symm] at H7
      have HH7 := Lib.hid H7
      have HX7 := Lib.hid (g3.ext (hx.alloc (.cells #[.slice none 0 0, .int .i64 (-1)] 54)) hF)
      rw [repB_len]
      have HF := Lib.hid (show ∀ k, F' k → w.heap.size ≤ k from fun k hk => by
        rcases g2 k hk with h1 | h1
        · exact hF k h1
        · have := hx.size; simp at h1; omega)
      clear H7 ho7 hg7 hb7 hob7 hown g1 g2 g3 a2
      go_wp2
      go_roundw
      case rel => exact ⟨j + 1, P7, c7, F', by omega, by go_num, HH7.out, HF.out, HX7.out⟩
      case measure => simp [intOf]; omega
    · obtain rfl : j = h := by omega
      go_wp2
      go_ret2
      exact ⟨⟨w.heap.size, P, c, F, rfl, H, hF⟩, hx⟩
theorem new_no (h r : Int) (w : World) (hB : rightB h r = false) :
    Calls Tryz.prog 32 #[.int .i64 h, .int .i64 r] w fun e w' => e = .returned (.tuple #[.pointer none, .int .i64 7]) ∧ w = w' := by
  have hS := fun W => sized_any h r W
  rw [hB] at hS
  go_enter Tryz.func32, Tryz.ntmps32
  go_wp2_with (go_at_call 54; refine (hS _).mono ?_; rintro e w1 ⟨rfl, rfl⟩)
  go_ret2
  exact ⟨rfl, rfl⟩
/-- a table of the reference's and an answer -/
def TabPostE (FF : Nat → Prop) (h r : Nat) (T : List (Bkt Hd)) (code : Int) (w : World) (e : Ending) (w' : World) : Prop := ∃ v l', e = .returned (.tuple #[.agg #[.int .i64 h, .int .i64 r, v], .int .i64 code]) ∧ NewB w' w.heap.size v l' ∧ absT l' = T ∧ (∀ x ∈ l', OffH FF x.1.1 x.1.2.2) ∧ Ext w w'
/-- the results of a call: a struct in its box (the block g) is overwritten, then it is returned -/
theorem tabPost_box {FF : Nat → Prop} {h r : Nat} {T : List (Bkt Hd)} {w w2 : World} {g base : Nat} {v : Value} {l' : List BkR} (hb : BoxN w2 g 28 #[.int .i64 0, .int .i64 0, .slice none 0 0]) (hg : w.heap.size ≤ g) (hn : NewB w2 base v l') (hgb : g < base) (ha : absT l' = T) (ho : ∀ x ∈ l', OffH FF x.1.1 x.1.2.2) (hgo : ∀ x ∈ l', OffH (fun i => i = g) x.1.1 x.1.2.2) (hx : Ext w w2) :
    let W := ((w2.setCell ⟨g, 0, none⟩ (.int .i64 h)).setCell ⟨g, 1, none⟩ (.int .i64 r)).setCell ⟨g, 2, none⟩ v
    NewB W w.heap.size v l' ∧ absT l' = T ∧ (∀ x ∈ l', OffH FF x.1.1 x.1.2.2) ∧ Ext w W ∧ W.cell? ⟨g, 0, none⟩ = some (.int .i64 h) ∧ W.cell? ⟨g, 1, none⟩ = some (.int .i64 r) ∧ W.cell? ⟨g, 2, none⟩ = some v := by
  have hB3 := ((hb.set 0 (.int .i64 h)).set 1 (.int .i64 r)).set 2 v
  have hu := (((UpdF.refl (fun i => i = g) w2).setCell (p := ⟨g, 0, none⟩) (.inl rfl) (.int .i64 h)).setCell (p := ⟨g, 1, none⟩) (.inl rfl) (.int .i64 r)).setCell (p := ⟨g, 2, none⟩) (.inl rfl) v
  exact ⟨(hn.upd hu (fun g' hg' e => by have := (own_lt hn.own hg').1; omega) hgo).lower (by omega), ha, ho, hu.ext hx (fun i hi => by omega), hB3.cell (i := 0) rfl, hB3.cell (i := 1) rfl, hB3.cell (i := 2) rfl⟩
theorem rnew_yes (FF : Nat → Prop) (h r : Nat) (w : World) (hB : rightB h r = true) :
    Calls Tryz.prog 35 #[.int .i64 h, .int .i64 r] w (TabPostE FF h r (emptyT h) 0 w) := by
  have hS := fun W => right_any (h : Int) (r : Int) W
  rw [hB] at hS
  have hh : 1 ≤ h ∧ h ≤ 100 ∧ 1 ≤ r ∧ r ≤ 20 := by have := of_decide_eq_true hB; omega
  have hx0 := (Ext.refl w).alloc (.cells #[.int .i64 0, .int .i64 0, .slice none 0 0] 28)
  have hb0 := BoxN.new w 28 #[.int .i64 0, .int .i64 0, .slice none 0 0]
  have hsz : (w.alloc (.cells #[.int .i64 0, .int .i64 0, .slice none 0 0] 28)).heap.size = w.heap.size + 1 := by simp
  have hE := rempty_any (fun i => FF i ∨ i = w.heap.size) h r (w.alloc (.cells #[.int .i64 0, .int .i64 0, .slice none 0 0] 28)) (by omega) (by omega)
  go_enter Tryz.func35, Tryz.ntmps35
  go_wp2_with (go_at_call 59; refine (hS _).mono ?_; rintro e w1 ⟨rfl, rfl⟩)
  generalize w.alloc (.cells #[.int .i64 0, .int .i64 0, .slice none 0 0] 28) = W at *
  go_at_call 76
  refine hE.mono ?_
  rintro e w2 ⟨v, l', rfl, hn, ha, ho, hx2⟩
  obtain ⟨P, c, rfl, _⟩ := hn.sl (by have := congrArg List.length ha; rw [absT_len] at this; simp [emptyT] at this; omega)
  have hb2 := hb0.ext hx2
  have q0 := hb2.frozen 0
  have q1 := hb2.frozen 1
  have q2 := hb2.frozen 2
  have b0 := hb2.cell (i := 0) rfl
  have b1 := hb2.cell (i := 1) rfl
  have b2 := hb2.cell (i := 2) rfl
  obtain ⟨z1, z2, z3, z4, z5, z6, z7⟩ := tabPost_box (h := h) (r := r) hb2 (Nat.le_refl _) hn (by omega) ha (fun x hx => (ho x hx).mono (fun i hi => .inl hi)) (fun x hx => (ho x hx).mono (fun i hi => .inr hi)) (hx0.trans hx2)
  clear hb0 hb2 hE
  go_wp2
  exact bodyPost_ret (v := .tuple #[.agg #[.int .i64 h, .int .i64 r, .slice P l'.length c], .int .i64 0]) (by simp [results, Tryz.results35, go_sem, z5, z6, z7]) rfl ⟨_, l', rfl, z1, z2, z3, z4⟩
theorem rnew_no (h r : Int) (w : World) (hB : rightB h r = false) :
    Calls Tryz.prog 35 #[.int .i64 h, .int .i64 r] w fun e w' => e = .returned (.tuple #[.agg #[.int .i64 0, .int .i64 0, .slice none 0 0], .int .i64 7]) ∧ Ext w w' := by
  have hS := fun W => right_any h r W
  rw [hB] at hS
  have hx0 := (Ext.refl w).alloc (.cells #[.int .i64 0, .int .i64 0, .slice none 0 0] 28)
  have hb2 := BoxN.new w 28 #[.int .i64 0, .int .i64 0, .slice none 0 0]
  go_enter Tryz.func35, Tryz.ntmps35
  go_wp2_with (go_at_call 59; refine (hS _).mono ?_; rintro e w1 ⟨rfl, rfl⟩)
  generalize w.alloc (.cells #[.int .i64 0, .int .i64 0, .slice none 0 0] 28) = W at *
  have q0 := hb2.frozen 0
  have q1 := hb2.frozen 1
  have q2 := hb2.frozen 2
  have b0 := hb2.cell (i := 0) rfl
  have b1 := hb2.cell (i := 1) rfl
  have b2 := hb2.cell (i := 2) rfl
  go_wp2
  exact bodyPost_ret (v := .tuple #[.agg #[.int .i64 0, .int .i64 0, .slice none 0 0], .int .i64 7]) (by simp [results, Tryz.results35, go_sem, b0, b1, b2]) rfl ⟨rfl, hx0⟩
end
section
open Go.RowKit
set_option linter.unusedVariables false
set_option maxRecDepth 20000
set_option linter.unusedSimpArgs false
set_option linter.unusedSectionVars false
set_option maxRecDepth 20000
attribute [local go_sem] Oper.semAt_some

def lessF (a b : Int) : Int := if a < b then -1 else if b < a then 1 else 0
theorem less_any (a b : Int) (w : World) : Calls Tryz.prog 110 #[.int .i64 a, .int .i64 b] w fun e w' => e = .returned (.int .i64 (lessF a b)) ∧ w' = w := by
  unfold lessF
  by_cases h1 : a < b
  · rw [if_pos h1]
    go_enter Tryz.func110, Tryz.ntmps110
    go_wp2
    go_ret
    exact ⟨rfl, rfl⟩
  · rw [if_neg h1]
    have h1' : decide (a < b) = false := decide_eq_false h1
    by_cases h2 : b < a
    · rw [if_pos h2]
      clear h1
      go_enter Tryz.func110, Tryz.ntmps110
      go_wp2
      go_ret
      exact ⟨rfl, rfl⟩
    · rw [if_neg h2]
      have h2' : decide (b < a) = false := decide_eq_false h2
      clear h1 h2
      go_enter Tryz.func110, Tryz.ntmps110
      go_wp2
      go_ret
      exact ⟨rfl, rfl⟩


def textsF (s t : ByteArray) : Int := if Op.bytesLess s.toList t.toList = true then -1 else if s.toList = t.toList then 0 else 1

theorem less_app : ∀ (p s t : List UInt8), Op.bytesLess (p ++ s) (p ++ t) = Op.bytesLess s t
  | [], s, t => rfl
  | x :: p, s, t => by
    have := less_app p s t
    simp [Op.bytesLess, this]
theorem texts_app (p s t : List UInt8) : (if Op.bytesLess (p ++ s) (p ++ t) = true then (-1 : Int) else if p ++ s = p ++ t then 0 else 1) = (if Op.bytesLess s t = true then (-1 : Int) else if s = t then 0 else 1) := by
  rw [less_app]
  simp
theorem take_same {s t : ByteArray} {k : Nat} (h1 : k ≤ s.size) (h2 : k ≤ t.size) (he : ∀ j, j < k → byteU s j = byteU t j) : s.toList.take k = t.toList.take k := by
  rw [Lib.toList_data, Lib.toList_data]
  apply List.ext_getElem?
  intro j
  have a1 : s.data.toList.length = s.size := by simp
  have a2 : t.data.toList.length = t.size := by simp
  by_cases hj : j < k
  · have := he j hj
    unfold byteU at this
    rw [List.getElem?_take_of_lt hj, List.getElem?_take_of_lt hj]
    rw [List.getD_eq_getElem?_getD, List.getD_eq_getElem?_getD, List.getElem?_eq_getElem (by omega), List.getElem?_eq_getElem (by omega)] at this
    rw [List.getElem?_eq_getElem (by omega), List.getElem?_eq_getElem (by omega)]
    simpa using this
  · rw [List.getElem?_eq_none (by simp; omega), List.getElem?_eq_none (by simp; omega)]
theorem drop_byte {s : ByteArray} {k : Nat} (h : k < s.size) : s.toList.drop k = byteU s k :: s.toList.drop (k + 1) := by
  rw [Lib.toList_data]
  have a1 : s.data.toList.length = s.size := by simp
  rw [List.drop_eq_getElem_cons (by omega)]
  congr 1
  unfold byteU
  rw [List.getD_eq_getElem?_getD, List.getElem?_eq_getElem (by omega)]
  rfl
theorem texts_split {s t : ByteArray} {k : Nat} (h1 : k ≤ s.size) (h2 : k ≤ t.size) (he : ∀ j, j < k → byteU s j = byteU t j) :
    textsF s t = (if Op.bytesLess (s.toList.drop k) (t.toList.drop k) = true then (-1 : Int) else if s.toList.drop k = t.toList.drop k then 0 else 1) := by
  have := texts_app (s.toList.take k) (s.toList.drop k) (t.toList.drop k)
  rw [← this]
  unfold textsF
  conv => rhs; rw [List.take_append_drop, take_same h1 h2 he, List.take_append_drop]
theorem texts_diff {s t : ByteArray} {k : Nat} (h1 : k < s.size) (h2 : k < t.size) (he : ∀ j, j < k → byteU s j = byteU t j) (hne : ¬ byteN s k = byteN t k) : textsF s t = lessF (byteN s k - byteN t k) 0 := by
  rw [texts_split (by omega) (by omega) he, drop_byte h1, drop_byte h2]
  rw [byteU_N s k h1, byteU_N t k h2] at hne ⊢
  have hn : ¬ byteU s k = byteU t k := fun e => hne (by rw [e])
  unfold lessF
  by_cases hl : byteU s k < byteU t k
  · have := UInt8.lt_iff_toNat_lt.1 hl
    have e1 : Op.bytesLess (byteU s k :: s.toList.drop (k + 1)) (byteU t k :: t.toList.drop (k + 1)) = true := by simp [Op.bytesLess, hl]
    rw [if_pos e1, if_pos (by omega)]
  · have h3 : ¬ (byteU s k).toNat < (byteU t k).toNat := fun h => hl (UInt8.lt_iff_toNat_lt.2 h)
    have e1 : ¬ Op.bytesLess (byteU s k :: s.toList.drop (k + 1)) (byteU t k :: t.toList.drop (k + 1)) = true := by simp [Op.bytesLess, hl, hn]
    have e2 : ¬ byteU s k :: s.toList.drop (k + 1) = byteU t k :: t.toList.drop (k + 1) := by simp [hn]
    rw [if_neg e1, if_neg e2, if_neg (by omega), if_pos (by omega)]
theorem texts_end {s t : ByteArray} {k : Nat} (h1 : k ≤ s.size) (h2 : k ≤ t.size) (hk : k = s.size ∨ k = t.size) (he : ∀ j, j < k → byteU s j = byteU t j) : textsF s t = lessF ((s.size : Int) - t.size) 0 := by
  rw [texts_split h1 h2 he]
  have a1 : (s.toList.drop k).length = s.size - k := by rw [Lib.toList_data]; simp
  have a2 : (t.toList.drop k).length = t.size - k := by rw [Lib.toList_data]; simp
  generalize s.toList.drop k = x at *
  generalize t.toList.drop k = y at *
  unfold lessF
  cases x with
  | nil =>
    cases y with
    | nil => simp at a1 a2; simp [Op.bytesLess]; omega
    | cons c y => simp at a1 a2; simp [Op.bytesLess]; omega
  | cons b x =>
    cases y with
    | nil => simp at a1 a2; simp [Op.bytesLess]; omega
    | cons c y => simp at a1 a2; omega
theorem sign_any (n : Int) (w : World) : Calls Tryz.prog 161 #[.int .i64 n] w fun e w' => e = .returned (.int .i64 (lessF n 0)) ∧ w = w' := by
  unfold lessF
  by_cases h1 : n < 0
  · rw [if_pos h1]
    go_enter Tryz.func161, Tryz.ntmps161
    go_wp2
    go_ret
    exact ⟨rfl, rfl⟩
  · rw [if_neg h1]
    have h1' : decide (n < 0) = false := decide_eq_false h1
    by_cases h2 : 0 < n
    · rw [if_pos h2]
      clear h1
      go_enter Tryz.func161, Tryz.ntmps161
      go_wp2
      go_ret
      exact ⟨rfl, rfl⟩
    · rw [if_neg h2]
      have h2' : decide (0 < n) = false := decide_eq_false h2
      clear h1 h2
      go_enter Tryz.func161, Tryz.ntmps161
      go_wp2
      go_ret
      exact ⟨rfl, rfl⟩
set_option maxHeartbeats 4000000 in
theorem texts_any (s t : ByteArray) (w : World) (hs : s.size ≤ 140737488355328) (ht : t.size ≤ 140737488355328) :
    Calls Tryz.prog 136 #[.string s, .string t] w fun e w' => e = .returned (.int .i64 (textsF s t)) ∧ Ext w w' := by
  go_enter Tryz.func136, Tryz.ntmps136
  go_wp2
  go_loopw [5] (fun i wr => ∃ k : Nat, k ≤ s.size ∧ k ≤ t.size ∧ i = .int .i64 k ∧ (∀ j, j < k → byteU s j = byteU t j) ∧ Ext w wr) (fun i _ => s.size - (intOf i).toNat)
  case atStart => exact ⟨0, by omega, by omega, rfl, by intro j hj; omega, Ext.refl w⟩
  case round =>
    obtain ⟨k, hk, hk2, rfl, hall, hx⟩ := hrel
    have hsub : IntKind.i64.wrap ((s.size : Int) - t.size) = (s.size : Int) - t.size := IntWalk.i64_in _ ⟨by omega, by omega⟩
    by_cases h1 : k < s.size
    · have c1 : (k : Int) < s.size := by omega
      by_cases h2 : k < t.size
      · have c2 : (k : Int) < t.size := by omega
        have d1 : IntKind.i64.wrap ((k : Int) + 1) = (k : Int) + 1 := IntWalk.i64_in _ ⟨by omega, by omega⟩
        have i1 := fun w => str_index s k h1 w
        have i2 := fun w => str_index t k h2 w
        have b1 := byteN_in s k
        have b2 := byteN_in t k
        by_cases he : byteN s k = byteN t k
        · have Hy : Hid (∀ j, j < k + 1 → byteU s j = byteU t j) := Lib.hid (fun j hj => by
            by_cases hjk : j = k
            · subst hjk
              rw [byteU_N s j h1, byteU_N t j h2] at he
              exact UInt8.toNat_inj.1 (by omega)
            · exact hall j (by omega))
          rw [he] at i1
          clear hall he
          generalize byteN t k = y at *
          go_wp2
          go_quiet (fail)
          go_wp2
          go_roundw
          case rel => exact ⟨k + 1, by omega, by omega, by go_num, Hy.out, hx.drewN _⟩
          case measure => simp [intOf]; omega
        · have Hn : Hid (textsF s t = lessF (byteN s k - byteN t k) 0) := Lib.hid (texts_diff h1 h2 hall he)
          have d2 : IntKind.i64.wrap (byteN s k - byteN t k) = byteN s k - byteN t k := IntWalk.i64_in _ ⟨by omega, by omega⟩
          have he1 : (byteN s k == byteN t k) = false := by simpa using he
          have he2 : (byteN s k != byteN t k) = true := by simpa using he
          have w1 : IntKind.i64.wrap (byteN s k) = byteN s k := IntWalk.i64_in _ ⟨by omega, by omega⟩
          have w2 : IntKind.i64.wrap (byteN t k) = byteN t k := IntWalk.i64_in _ ⟨by omega, by omega⟩
          have hS := fun W => sign_any (byteN s k - byteN t k) W
          clear hall he
          generalize byteN s k = x at *
          generalize byteN t k = y at *
          go_wp2
          go_quiet (fail)
          go_wp2
          go_quiet ((go_at_call 161; first | exact quiet_left (hS _) | exact quiet_add_left (hS _)))
          go_wp2
          go_ret
          exact ⟨by rw [Hn.out]; rfl, by first | exact hx.drewN _ | exact (hx.drewN _).drewN _⟩
      · have c2 : decide ((k : Int) < t.size) = false := decide_eq_false (by omega)
        have hno := Lib.hid h2
        have Hn := Lib.hid (texts_end (s := s) (t := t) hk hk2 (by omega) hall)
        have hS := fun W => sign_any ((s.size : Int) - t.size) W
        clear hall h2
        go_wp2_with (go_at_call 161; refine (hS _).mono ?_; rintro e w1 ⟨rfl, rfl⟩)
        all_goals first
          | (exfalso; have := hno.out; omega)
          | (go_ret
             exact ⟨by rw [Hn.out]; rfl, hx⟩)
    · have c1 : decide ((k : Int) < s.size) = false := decide_eq_false (by omega)
      have hno := Lib.hid h1
      have Hn := Lib.hid (texts_end (s := s) (t := t) hk hk2 (by omega) hall)
      have hS := fun W => sign_any ((s.size : Int) - t.size) W
      clear hall h1
      go_wp2_with (go_at_call 161; refine (hS _).mono ?_; rintro e w1 ⟨rfl, rfl⟩)
      all_goals first
        | (exfalso; have := hno.out; omega)
        | (go_ret
           exact ⟨by rw [Hn.out]; rfl, hx⟩)
end
end Go.Proofs.YtcbinafokhekmaaGreatDoor
