/- Arrays: Pack of the program. -/
import Derived.Test.YtiakmcfbkceojaaArP2
import Derived.Test.YtiakmcfbkceojaaArS
namespace Go.Proofs.Ytiakmcfbkceojaa
open Go.RowKit Go.Maps
set_option linter.unusedVariables false
set_option linter.unusedSimpArgs false
set_option maxRecDepth 20000
attribute [local go_sem] Oper.semAt_some

theorem wpIn_round_F {P : Program} {r id : Nat} {ops : Array Oper} {Q : Exit → Act → World → Prop} {a : Act} {w : World} (C : World → Prop) (m : Nat) (hnd : ops.all noDefer = true) (hQ : ¬ LetsOut Q) (hm : P.follows .mixedOrders = true)
    (h : wpAnyF P .any ops Q C m ops.size (Array.replicate ops.size false) a { w with drawn := w.drawn + 1 }) : (Code.region id ops true).wpIn (Fence.wide.inRound r) 0 P Q a w :=
  wpIn_region_any hm (wpAnyIn_round_of_plain hnd hQ _ _ _ _ (wpAny_of_F _ _ _ _ h))
/-- one block put behind, from a new cell; what lies below is as it was -/
theorem app_one_b {w W : World} {base : Nat} {v : Value} {A : List Row} {r : Row} (hwb : w.heap.size ≤ base) (hbW : base ≤ W.heap.size) (hx : Ext w W) (h : OwnA W base v A) (hr : InB W base r) (hne : ∀ x ∈ A, x.h ≠ r.h) (hv : v.ownBlock ≠ some r.h) (hn : A.length ≤ 10000) :
    ∃ v' W', (Builtin.append_ #[24, 24] 24 #[v, .slice (some ⟨W.heap.size, 0, none⟩) 1 1]).run Try.prog (W.alloc (.cells #[.slice (some ⟨r.h, 0, none⟩) r.l.length r.c] 22)) = .ok v' W' ∧ OwnA W' base v' (A ++ [r]) ∧ Ext w W' ∧ (∀ g o, g < base → W.heap[g]? = some o → W'.heap[g]? = some o) := by
  have hx1 : Ext W (W.alloc (.cells #[.slice (some ⟨r.h, 0, none⟩) r.l.length r.c] 22)) := (Ext.refl W).alloc _
  have ho := h.ext hx1
  have hblk := ho.out.lt
  obtain ⟨v', w', h1, h2, h3, h4⟩ := ho.app (B := [r]) W.heap.size 0 1 (fun j u hj => by
    have hjl := (List.getElem?_eq_some_iff.1 hj).1
    obtain rfl : j = 0 := by simpa using hjl
    simp only [List.map_cons, List.map_nil, List.getElem?_cons_zero, Option.some.injEq] at hj
    subst hj
    exact one_at (World.alloc_heap_new W _)) (fun x hx' => by simp at hx'; subst hx'; exact hr.same (hx1.block hr.lt)) (by simp) (fun x hx' y hy => by simp at hy; subst hy; exact hne x hx') (fun y hy => by simp at hy; subst hy; exact hv) (by simp; omega) (by rw [World.size_alloc]; omega)
  exact ⟨v', w', h1, h2, Below.grown (hx.trans hx1) h3 (hx.trans hx1).size (fun j hj => by have := (hblk j hj).1; omega), fun g o hg ho => (grown_heap h3 (hx1.heap ho) (fun e => by have := (hblk g e).1; omega))⟩
theorem SlI.upd {W W' : World} {b off c k : Nat} {l : List Int} (h : SlI W (some ⟨b, off, none⟩) c l) (hu : Upd W k W') (hne : b ≠ k) : SlI W' (some ⟨b, off, none⟩) c l :=
  ⟨fun i hi => by
    obtain ⟨b', off', e, hc⟩ := h.at_ i hi
    simp only [Option.some.injEq, Addr.mk.injEq, and_true] at e
    obtain ⟨rfl, rfl⟩ := e
    exact ⟨_, _, rfl, hu.cell hc hne⟩, h.le, h.cap⟩
/-- a list that is read, wherever it lies below a block -/
structure SlB (W : World) (B : Nat) (P : Option Addr) (bb off c : Nat) (F : List Int) : Prop where
  sl : SlI W P c F
  at_ : F.length ≠ 0 → P = some ⟨bb, off, none⟩
  lt : bb < B
theorem SlB.ext {W W' : World} {B bb off c : Nat} {P : Option Addr} {F : List Int} (h : SlB W B P bb off c F) (hx : Ext W W') : SlB W' B P bb off c F := ⟨h.sl.ext hx, h.at_, h.lt⟩
theorem SlB.same {W W' : World} {B bb off c : Nat} {P : Option Addr} {F : List Int} (h : SlB W B P bb off c F) (hx : F.length ≠ 0 → ∀ o, W.heap[bb]? = some o → W'.heap[bb]? = some o) : SlB W' B P bb off c F :=
  ⟨⟨fun i hi => by
    obtain ⟨b', off', e, hc⟩ := h.sl.at_ i hi
    have e2 := h.at_ (by omega)
    have e3 := e.symm.trans e2
    simp only [Option.some.injEq, Addr.mk.injEq, and_true] at e3
    obtain ⟨rfl, rfl⟩ := e3
    refine ⟨_, _, e, ?_⟩
    have hlt := block_lt hc
    obtain ⟨o, ho⟩ : ∃ o, W.heap[b']? = some o := ⟨W.heap[b'], Array.getElem?_eq_getElem hlt⟩
    rw [World.cell?_of_block (a := ⟨b', off' + i, none⟩) ((hx (by omega) o ho).trans ho.symm)]
    exact hc, h.sl.le, h.sl.cap⟩, h.at_, h.lt⟩
theorem slB_of {W : World} {P : Option Addr} {c : Nat} {F : List Int} (h : SlI W P c F) (h0 : 0 < W.heap.size) : ∃ bb off, SlB W W.heap.size P bb off c F := by
  by_cases hF : F.length = 0
  · exact ⟨0, 0, h, fun e => absurd hF e, h0⟩
  · obtain ⟨b, off, e, hc⟩ := h.at_ 0 (by omega)
    exact ⟨b, off, h, fun _ => e, block_lt hc⟩

set_option maxHeartbeats 4000000 in
theorem apack_yes (b : Int) (n : Nat) (P : Option Addr) (cap : Nat) (Q : Nat → Option Addr) (C : Nat → Nat) (LL : List (List Int)) (w : World) (h : SlA w P cap Q C LL) (hok : ArOk b LL) (hn : 0 < n) (hb : (n : Int) ≤ b) :
    Calls Try.prog 28 #[.int .i64 b, .slice P LL.length cap, .int .i64 n] w (PackPost (packF LL.flatten n) w) := by
  have hV := avalid_yes b P cap Q C LL w h hok
  have hle := hok.le
  have hb2 := roomB_t hok.room
  have hL : ∀ W, SlA W P cap Q C LL → Calls Try.prog 46 #[.slice P LL.length cap] W fun e w' => ∃ P' cap', e = .returned (.slice P' LL.flatten.length cap') ∧ SlI w' P' cap' LL.flatten ∧ Ext W w' ∧ Hid (∀ b o, P' = some ⟨b, o, none⟩ → W.heap.size ≤ b) := fun W hW => (listed_any P cap Q C LL W hW hok.ne hok.le).mono (by
    rintro e w' ⟨v, rfl, hown, hx⟩
    obtain ⟨P', cap', rfl, hs⟩ := slI_of_row hown
    exact ⟨P', cap', rfl, hs, hx, Lib.hid (fun b o e => (hown.lt b (by rw [e]; rfl)).1)⟩)
  clear hok
  generalize LL.flatten = F at *
  have d1 : ¬ (n : Int) < 1 := by omega
  have d2 : ¬ b < (n : Int) := by omega
  refine calls_of_wpAt Try.func28 rfl ?_
  simp only [Try.ntmps28, List.size_toArray, List.length_cons, List.length_nil, Nat.reduceAdd, Nat.reduceSub, Array.replicate_succ, Array.replicate_zero, List.push_toArray, List.append_toArray, List.nil_append, List.cons_append]
  refine wpAt_seq_k (fun K hK => ?_)
  go_wp2
  refine wpAt_seq_k (fun K hK => ?_)
  go_wp2_with (go_at_call 15; refine hV.mono ?_; rintro e w2 ⟨rfl, hx2⟩)
  refine wpAt_seq_k (fun K hK => ?_)
  go_wp2
  obtain ⟨W3, hW3⟩ : ∃ W3, w2.alloc (.cells #[.slice none 0 0] 24) = W3 := ⟨_, rfl⟩
  have b8 : Boxed W3 w2.heap.size 24 (.slice none 0 0) := by rw [← hW3]; exact Boxed.new _ _ _
  have hx3 : Ext w2 W3 := by rw [← hW3]; exact (Ext.refl _).alloc _
  have hz3 : W3.heap.size = w2.heap.size + 1 := by rw [← hW3, World.size_alloc]
  have HZ : Hid (w.heap.size ≤ w2.heap.size ∧ w2.heap.size < W3.heap.size) := Lib.hid ⟨hx2.size, by omega⟩
  have hw3 := hx2.trans hx3
  try rw [hW3]
  clear hW3 hx2 hx3 hz3 hV
  generalize w2.heap.size = n8 at *
  refine wpAt_seq ?_
  refine wpAt_seq_k (fun K hK => ?_)
  go_wp2_with (first
    | (go_at_call 46; refine (hL _ (by exact h.ext hw3)).mono ?_; rintro e w4 ⟨P', c', rfl, hs, hx4, hb4⟩)
    | (go_at_call 51; refine (chunk_any _ _ _ n hn (by omega) _).mono ?_; rintro e w5 ⟨rfl, rfl⟩))
  have h40 : 0 < w4.heap.size := by have := HZ.out; have := hx4.size; omega
  obtain ⟨bb, off, hsB⟩ := slB_of hs h40
  obtain ⟨W5, hW5⟩ : ∃ W5, (w4.alloc (.cells #[.slice P' F.length c'] 22)).alloc (.cells #[.int .i64 n] 3) = W5 := ⟨_, rfl⟩
  have b1 : Boxed W5 w4.heap.size 22 (.slice P' F.length c') := by rw [← hW5]; exact (Boxed.new _ _ _).alloc _
  have b2 : Boxed W5 (w4.heap.size + 1) 3 (.int .i64 n) := by
    rw [← hW5]
    have := Boxed.new (w4.alloc (.cells #[.slice P' F.length c'] 22)) 3 (.int .i64 n)
    rw [World.size_alloc] at this
    exact this
  have hx5 : Ext w4 W5 := by rw [← hW5]; exact ((Ext.refl _).alloc _).alloc _
  have hz5 : W5.heap.size = w4.heap.size + 2 := by rw [← hW5]; simp only [World.size_alloc]
  have HC : Hid (w.heap.size ≤ n8 ∧ n8 < w4.heap.size ∧ W5.heap.size = w4.heap.size + 2 ∧ bb < w4.heap.size) := Lib.hid ⟨HZ.out.1, by have := HZ.out.2; have := hx4.size; omega, hz5, hsB.lt⟩
  have HB : Hid (F.length ≠ 0 → n8 < bb) := Lib.hid (fun hF => Nat.lt_of_lt_of_le HZ.out.2 (hb4.out _ _ (hsB.at_ hF)))
  replace hsB := hsB.ext hx5
  replace b8 : Boxed W5 _ _ _ := (hx4.trans hx5).heap b8
  have hw5 := hw3.trans (hx4.trans hx5)
  rw [hW5]
  clear hW5 hx4 hx5 hz5 hw3 HZ h40 hs
  generalize w4.heap.size = c1 at *
  refine wpAt_block ?_
  refine wpAt_rangeFunc (hf := Try.func28) (gf := 66) (lb := #[.pointer (some ⟨c1, 0, none⟩), .pointer (some ⟨c1 + 1, 0, none⟩)]) rfl (enters_of Try.func66 (by kernel_rfl) rfl)
    (chunk_seq c1 (c1 + 1) P' bb off c' F hsB.at_ n hn (by omega) hle hsB.sl.le hsB.sl.cap) (fun _ => rfl)
    (fun i W => ∃ v RR, (Boxed W n8 24 v ∧ Boxed W c1 22 (.slice P' F.length c') ∧ Boxed W (c1 + 1) 3 (.int .i64 n)) ∧ OwnA W (c1 + 4) v RR ∧ Hid (RR.map Row.l = chunkN F n i) ∧ Ext w W ∧ SlB W c1 P' bb off c' F)
    (fun _ _ _ => False)
    (fun _ _ _ => False)
    (fun i A' B' ⟨v, RR, ⟨h1, h2, h3⟩, h4, h5, h6, h7⟩ hx => ⟨v, RR, ⟨hx.heap h1, hx.heap h2, hx.heap h3⟩, h4.ext hx, h5, h6.trans hx, h7.ext hx⟩)
    (fun _ _ _ _ h _ => h)
    (fun i A' B' ⟨v, RR, ⟨h1, h2, h3⟩, h4, h5, h6, h7⟩ hx => by
      obtain ⟨y1, y2, y3, y4⟩ := HC.out
      refine ⟨v, RR, ⟨hx.heap h1 (by omega), hx.heap h2 (by omega), hx.heap h3 (by omega)⟩, h4.kept hx (fun e => ?_) (fun r hr e => ?_), h5, Upd.ext h6 hx (by omega), h7.same (fun _ o ho => hx.heap ho (by omega))⟩
      · have := (h4.out.lt _ e).1; omega
      · have := h4.ge hr; omega)
    (fun _ _ _ _ h _ => h)
    (fun i A' ⟨v, RR, ⟨h1, h2, h3⟩, h4, h5, h6, h7⟩ => ⟨h2.cell, h3.cell⟩)
    ⟨_, [], ⟨b8, b1, b2⟩, OwnA.nil _ _, Lib.hid rfl, hw5, ⟨hsB.sl, hsB.at_, by have := HC.out; omega⟩⟩ ?round ?done (fun _ _ _ _ h _ => h.elim) (fun _ _ _ _ h _ => h.elim)
  case round =>
    rintro i W ⟨v, RR, ⟨h1, h2, h3⟩, h4, h5, h6, h7⟩ hW hlt
    obtain ⟨y1, y2, y3, y4⟩ := HC.out
    have hin := (chunkM_lt hn).1 hlt
    have hPs := h7.at_ (by omega)
    obtain ⟨q, hq⟩ : ∃ q, i * n = q := ⟨_, rfl⟩
    have hpl := chunkN_len F n i
    have Hm : Hid (chunkN F n (i + 1) = chunkN F n i ++ [(F.drop (i * n)).take n]) := Lib.hid rfl
    have hRl := map_len h5.out
    rw [chunkN_length] at hRl
    have hM := chunkM_le F hn
    simp only [pieceV]
    rw [hq] at hin hpl Hm ⊢
    obtain ⟨m, hm⟩ : ∃ m, min n (F.length - q) = m := ⟨_, rfl⟩
    rw [hm] at hpl ⊢
    gi_wp2
    refine ⟨trivial, trivial, ?_⟩
    intro W3 hu3 hs3
    replace h1 : Boxed W3 _ _ _ := hu3.heap h1 (by omega)
    replace h2 : Boxed W3 _ _ _ := hu3.heap h2 (by omega)
    replace h3 : Boxed W3 _ _ _ := hu3.heap h3 (by omega)
    replace h4 : OwnA W3 (c1 + 4) v RR := h4.kept hu3 (fun e => by have := (h4.out.lt _ e).1; omega) (fun r hr e => by have := h4.ge hr; omega)
    replace h6 := Upd.ext h6 hu3 (by omega)
    replace h7 : SlB W3 c1 P' bb off c' F := h7.same (fun _ o ho => hu3.heap ho (by omega))
    have hsz3 : W5.heap.size + 2 ≤ W3.heap.size := by omega
    have hpiece := (hPs ▸ h7.sl).mid q n (by omega)
    have hcl : ∀ Wd, Ext W3 Wd → Calls Try.prog 52 #[.slice (some ⟨bb, off + q, none⟩) m m] Wd fun e w' => ∃ g c, e = .returned (.slice (some ⟨g, 0, none⟩) m c) ∧ TightB w' Wd.heap.size ⟨g, c, (F.drop q).take n⟩ ∧ Ext Wd w' := fun Wd hd => by
      have hp2 : SlI Wd (some ⟨bb, off + q, none⟩) m ((F.drop q).take n) := ⟨(hpiece.ext hd).at_, by omega, by omega⟩
      have := clone_any (some ⟨bb, off + q, none⟩) m _ Wd hp2 (fun e => by rw [e, List.length_nil] at hpl; omega) (by omega)
      rw [hpl] at this
      exact this
    have q1 := h1.cell
    have f1 := h1.frozen
    clear hu3 hs3 hW hpiece
    gi_wp2
    refine wpIn_round_F (fun W' => W'.cell? ⟨n8, 0, none⟩ = some v) 5 (by kernel_rfl) (by rintro ⟨a, w, h⟩; exact h) (by kernel_rfl) ?_
    have q2 : W3.drew.cell? ⟨n8, 0, none⟩ = some v := q1
    refine wpAnyF_take (i := 0) (v := v) (fuel := 5) rfl (by kernel_rfl) (by kernel_rfl) (by kernel_rfl) (by kernel_rfl) (by kernel_rfl) rfl (fun _ _ _ h => h) (.inl ⟨rfl, fun W hS => by go_simp⟩) q2 ?_
    refine wpAnyF_take (i := 1) (v := .slice (some ⟨bb, off + q, none⟩) m m) (fuel := 4) rfl (by kernel_rfl) (by kernel_rfl) (by kernel_rfl) (by kernel_rfl) (by kernel_rfl) rfl (fun _ _ _ h => h) (.inl ⟨rfl, fun W hS => by go_simp⟩) q2 ?_
    refine wpAnyF_one (i := 2) (fuel := 3) rfl (by kernel_rfl) rfl fun K' hK' => ?_
    go_simp
    refine (hcl _ (by exact (Ext.refl _).drew)).mono ?_
    rintro e w6 ⟨g, c, rfl, hT, hx6⟩
    have hx36 : Ext W3 w6 := ((Ext.refl W3).drew).trans hx6
    refine hK' _ _ (fun _ => hx36.cell q1) ?_
    clear hK' K'
    refine wpAnyF_one (i := 3) (fuel := 2) rfl (by kernel_rfl) rfl fun K' hK' => ?_
    go_simp
    refine hK' _ _ (fun _ => (hx36.alloc _).cell q1) ?_
    clear hK' K'
    have hgw : W3.heap.size ≤ g := hT.inB.1
    obtain ⟨v', W7, hrun7, hO7, hx7, hk7⟩ := app_one_b (w := w) (base := c1 + 4) (by omega) (by have := hx36.size; omega) (h6.trans hx36) (h4.ext hx36) (hT.inB.down (by have := hx36.size; simp only [World.drew] at this ⊢; omega)) (fun x hx => by have := h4.lt hx; simp only; omega) (fun e => by have := (h4.out.lt _ e).2; simp only at this; omega) (by omega)
    simp only [hpl] at hrun7
    obtain ⟨P7, l7, c7, rfl⟩ : ∃ P l c, v' = .slice P l c := by rcases hO7.cases with ⟨e, _⟩ | ⟨_, _, e, _⟩ <;> exact ⟨_, _, _, e⟩
    refine wpAnyF_one (i := 4) (fuel := 1) rfl (by kernel_rfl) rfl fun K' hK' => ?_
    refine wp_append_at _ _ _ rfl _ _ rfl rfl hrun7 ?_
    have k8 : Boxed W7 n8 24 v := hk7 _ _ (by omega) (hx36.heap h1)
    refine hK' _ _ (fun _ => k8.cell) ?_
    clear hK' K'
    have q7 := k8.cell
    have f7 := k8.frozen
    refine wpAnyF_one (i := 5) (fuel := 0) rfl (by kernel_rfl) rfl fun K' hK' => ?_
    go_simp
    refine hK' _ _ (fun h => by simp at h) ?_
    clear hK' K'
    refine wpAnyF_done (by kernel_rfl) ?_ 0
    gi_wp2
    have hb2' : ∀ j, j = W5.heap.size ∨ j = W5.heap.size + 1 → (W7.setCell ⟨n8, 0, none⟩ (.slice P7 l7 c7)).heap[j]? = W3.heap[j]? := fun j hj => by
      obtain ⟨o, ho⟩ : ∃ o, W3.heap[j]? = some o := ⟨W3.heap[j], Array.getElem?_eq_getElem (by omega)⟩
      rw [Below.heap_setCell _ _ _ _ (by simp; omega), ho]
      exact hk7 _ _ (by omega) (hx36.heap ho)
    refine ⟨hb2' _ (.inl rfl), hb2' _ (.inr rfl), .slice P7 l7 c7, RR ++ [⟨g, c, (F.drop q).take n⟩], ⟨k8.set _, (Below.heap_setCell _ _ _ _ (by simp; omega)).trans (hk7 _ _ (by omega) (hx36.heap h2)), (Below.heap_setCell _ _ _ _ (by simp; omega)).trans (hk7 _ _ (by omega) (hx36.heap h3))⟩, ?_, Lib.hid (by rw [List.map_append, h5.out, Hm.out]; rfl), hx7.setCell (by simp only; omega) _, ?_⟩
    · have hu : Upd W7 n8 (W7.setCell ⟨n8, 0, none⟩ (.slice P7 l7 c7)) := Upd.setCell _ _ _ _
      exact hO7.kept hu (fun e => by have := (hO7.out.lt _ e).1; omega) (fun r hr e => by have := hO7.ge hr; omega)
    · exact h7.same (fun hF o ho => (Below.heap_setCell _ _ _ _ (by have := HB.out hF; simp; omega)).trans (hk7 _ _ (by omega) (hx36.heap ho)))
  case done =>
    rintro W ⟨v, RR, ⟨h1, h2, h3⟩, h4, h5, h6, h7⟩ hD
    refine wpAt_of_wp ?_
    have q1 := h1.cell
    go_wp2
    obtain ⟨y1, y2, y3, y4⟩ := HC.out
    refine ⟨by simp, .inl ⟨_, _, rfl, run_takeDeferred hD, ?_⟩⟩
    refine ⟨.tuple #[v, .int .i64 0], by simp [results, Try.results28, go_sem], v, RR, rfl, ?_, h5.out, Upd.ext h6 (grownBy_putObj' _ _ _) (by omega)⟩
    exact ((h4.putD hD (fun cs t fr e => by cases e)).down (by omega))
end Go.Proofs.Ytiakmcfbkceojaa
