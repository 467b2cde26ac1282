/- CaOw; CaBu; CaCp; CaAw (merged by group.py) -/
import Derived.Test.YtcbinafokhekmaaDoorQ15
namespace Go.Proofs.YtcbinafokhekmaaDoor
section
open Go.RowKit Go.Maps
set_option linter.unusedVariables false
set_option maxRecDepth 20000
set_option linter.unusedSimpArgs false
set_option linter.unusedSectionVars false
set_option maxRecDepth 100000
attribute [local go_sem] Oper.semAt_some

/-- entries in new blocks, with rows in new blocks, in w' -/
structure OwnH (w w' : World) (v : Value) (l : List HdR) : Prop where
  own : OwnG csHd 36 2 w' w.heap.size v l
  row : ∀ x ∈ l, SlV w' x.1.1 x.1.2.1 x.1.2.2 ∧ (x.1.1 = none → x.1.2.1 = 0) ∧ Off (fun i => i < w.heap.size) x.1.1 x.1.2.2
  sep : ∀ g, v.ownBlock = some g → ∀ x ∈ l, Off (fun i => i = g) x.1.1 x.1.2.2
theorem OwnH.ext {w w1 w2 : World} {v : Value} {l : List HdR} (h : OwnH w w1 v l) (hx : Ext w1 w2) : OwnH w w2 v l :=
  ⟨h.own.ext hx, fun x hm => ⟨(h.row x hm).1.ext hx, (h.row x hm).2⟩, h.sep⟩
theorem OwnH.nil (w w1 : World) : OwnH w w1 (.slice none 0 0) [] := ⟨OwnG.nil _ _ _ _ _, fun x hm => by simp at hm, fun g hg => by cases hg⟩
/-- one more was appended -/
theorem OwnH.app {w w1 w7 : World} {v v7 : Value} {l : List HdR} (h : OwnH w w1 v l) {x : HdR} (hx : SlV w1 x.1.1 x.1.2.1 x.1.2.2 ∧ (x.1.1 = none → x.1.2.1 = 0) ∧ Off (fun i => i < w.heap.size) x.1.1 x.1.2.2) (hs : ∀ g, v.ownBlock = some g → Off (fun i => i = g) x.1.1 x.1.2.2)
    (ho : OwnG csHd 36 2 w7 w.heap.size v7 (l ++ [x])) (hg : w1.grownBy w7 v.ownBlock) (hob : v7.ownBlock = v.ownBlock ∨ v7.ownBlock = some w1.heap.size) : OwnH w w7 v7 (l ++ [x]) := by
  have hu := UpdF.of_grown hg
  have hall : ∀ y ∈ l ++ [x], (SlV w1 y.1.1 y.1.2.1 y.1.2.2 ∧ (y.1.1 = none → y.1.2.1 = 0) ∧ Off (fun i => i < w.heap.size) y.1.1 y.1.2.2) ∧ ∀ g, v.ownBlock = some g → Off (fun i => i = g) y.1.1 y.1.2.2 := fun y hy => by
    rcases List.mem_append.1 hy with h1 | h1
    · exact ⟨h.row y h1, fun g hg => h.sep g hg y h1⟩
    · obtain rfl := List.mem_singleton.1 h1
      exact ⟨hx, hs⟩
  have hoff : ∀ y ∈ l ++ [x], Off (fun i => v.ownBlock = some i) y.1.1 y.1.2.2 := fun y hy => by
    cases hv : v.ownBlock with
    | none => exact fun _ b off _ hb => by cases hb
    | some g => exact ((hall y hy).2 g hv).mono (fun i hi => by injection hi with hi; exact hi.symm)
  refine ⟨ho, fun y hy => ⟨(hall y hy).1.1.upd hu (hoff y hy), (hall y hy).1.2⟩, fun g hg' y hy => ?_⟩
  rcases hob with e | e
  · exact (hall y hy).2 g (e ▸ hg')
  · rw [e] at hg'
    injection hg' with hg'
    subst hg'
    exact ((hall y hy).1.1.lt vl_pos).mono (fun i hi => by subst hi; exact Nat.le_refl _)
def OwnedP (l : List HdR) (w : World) (e : Ending) (w' : World) : Prop := ∃ v l', e = .returned v ∧ OwnH w w' v l' ∧ l'.map hdA = l.map hdA ∧ Ext w w'
set_option maxHeartbeats 8000000 in
theorem owned_any (P : Option Addr) (c : Nat) (l : List HdR) (w : World) (h : SlH w P c l) (hl : l.length ≤ 100000) (hr : ∀ x ∈ l, x.1.2.2.length ≤ 100000) :
    Calls Tryd.prog 34 #[.slice P l.length c] w (OwnedP l w) := by
  have hlen := h.sl.len
  go_enter Tryd.func34, Tryd.ntmps34
  go_wp2_with (fail)
  go_loopw [8, 3, 5] (fun i u _ wr => ∃ (j : Nat) (l' : List HdR) (v : Value), j ≤ l.length ∧ i = .int .i64 j ∧ v = u ∧ OwnH w wr v l' ∧ l'.map hdA = (l.take j).map hdA ∧ Ext w wr) (fun i _ _ _ => l.length - (intOf i).toNat)
  case atStart => exact ⟨0, [], _, by omega, rfl, rfl, OwnH.nil _ _, rfl, Ext.refl _⟩
  case round =>
    obtain ⟨j, l', v, hj, rfl, rfl, hO, hab, hx⟩ := hrel
    by_cases hlt : j < l.length
    · have cj : (j : Int) < l.length := by omega
      have d1 : IntKind.i64.wrap ((j : Int) + 1) = (j : Int) + 1 := IntWalk.i64_in _ ⟨by omega, by omega⟩
      obtain ⟨b, off, hP, g0, g1⟩ := (h.ext hx).at_ j hlt
      subst hP
      have hrw := h.row _ (nthH_mem hlt)
      have hrl := hr _ (nthH_mem hlt)
      have HTK := Lib.hid (show (l.take (j + 1)).map hdA = (l.take j).map hdA ++ [hdA (nthH l j)] from by
        rw [List.take_add_one, nthH_some hlt]; simp)
      have HLL := Lib.hid (show l'.length = j from by
        have := congrArg List.length hab
        rw [List.length_map, List.length_map, List.length_take] at this
        omega)
      generalize nthH l j = x at *
      obtain ⟨⟨A, B, L⟩, K⟩ := x
      dsimp only at g0 g1 hrw hrl
      have hC := fun W (hx' : Ext w W) => clonev_any A B L W (hrw.1.ext hx') hrl hrw.2
      have HO := Lib.hid hO
      have HAB := Lib.hid hab
      have HX := Lib.hid hx
      have hbx := BoxN.new wr 36 #[.slice A L.length B, .int .i64 K]
      have b0 := hbx.cell (i := 0) rfl
      have b1 := hbx.cell (i := 1) rfl
      have hxa := (Ext.refl wr).alloc (.cells #[.slice A L.length B, .int .i64 K] 36)
      have hxwa := hx.trans hxa
      clear hO hab hrw
      go_wp2_with (fail)
      have hszw := hx.size
      generalize wr.alloc (.cells #[.slice A L.length B, .int .i64 K] 36) = Y at *
      have s1 : Y.drew.cell? ⟨wr.heap.size, 0, none⟩ = some (.slice A L.length B) := b0
      have s2 : Y.drew.cell? ⟨wr.heap.size, 1, none⟩ = some (.int .i64 K) := b1
      refine wp_region_noPanic ?_
      refine wp_region_held (S := fun w' => w'.cell? ⟨wr.heap.size, 0, none⟩ = some (.slice A L.length B) ∧ w'.cell? ⟨wr.heap.size, 1, none⟩ = some (.int .i64 K)) (by kernel_rfl) ?_
      refine wpAnyH_take (i := 0) (v := v) (fuel := 9) rfl (by kernel_rfl) (by kernel_rfl) (by kernel_rfl) (fun _ _ _ h => h) (.inl ⟨rfl, fun W hS => by obtain ⟨e2, e3⟩ := hS; go_simp⟩) ⟨s1, s2⟩ ?_
      refine wpAnyH_take (i := 1) (v := .pointer (some ⟨wr.heap.size, 0, none⟩)) (fuel := 8) rfl (by kernel_rfl) (by kernel_rfl) (by kernel_rfl) (fun _ _ _ h => h) (.inl ⟨rfl, fun W hS => by obtain ⟨e2, e3⟩ := hS; go_simp⟩) ⟨s1, s2⟩ ?_
      refine wpAnyH_take (i := 2) (v := .slice A L.length B) (fuel := 7) rfl (by kernel_rfl) (by kernel_rfl) (by kernel_rfl) (fun _ _ _ h => h) (.inl ⟨rfl, fun W hS => by obtain ⟨e2, e3⟩ := hS; go_simp⟩) ⟨s1, s2⟩ ?_
      refine wpAnyH_take (i := 4) (v := .pointer (some ⟨wr.heap.size, 1, none⟩)) (fuel := 6) rfl (by kernel_rfl) (by kernel_rfl) (by kernel_rfl) (fun _ _ _ h => h) (.inl ⟨rfl, fun W hS => by obtain ⟨e2, e3⟩ := hS; go_simp⟩) ⟨s1, s2⟩ ?_
      refine wpAnyH_take (i := 5) (v := .int .i64 K) (fuel := 5) rfl (by kernel_rfl) (by kernel_rfl) (by kernel_rfl) (fun _ _ _ h => h) (.inl ⟨rfl, fun W hS => by obtain ⟨e2, e3⟩ := hS; go_simp⟩) ⟨s1, s2⟩ ?_
      refine wpAnyH_one (i := 3) (fuel := 4) rfl (by kernel_rfl) rfl fun K' hK => ?_
      go_simp
      refine (hC _ (hxwa.trans (Ext.refl _).drew)).mono ?_
      rintro e w9 ⟨⟨v9, rfl, ho9⟩, x9⟩
      obtain ⟨P9, c9, rfl, hs9, hn9⟩ := ho9.read elemV (by omega)
      have s1 := x9.cell s1
      have s2 := x9.cell s2
      refine hK _ _ ⟨s1, s2⟩ ?_
      clear hK K' hC
      refine wpAnyH_one (i := 6) (fuel := 3) rfl (by kernel_rfl) rfl fun K' hK => ?_
      go_simp
      refine hK _ _ ⟨s1, s2⟩ ?_
      clear hK K'
      refine wpAnyH_one (i := 7) (fuel := 2) rfl (by kernel_rfl) rfl fun K' hK => ?_
      go_simp
      have xA := (Ext.refl w9).alloc (.cells #[.slice P9 L.length c9, .int .i64 K] 36)
      have s1 := xA.cell s1
      have s2 := xA.cell s2
      refine hK _ _ ⟨s1, s2⟩ ?_
      clear hK K'
      have hyA := ((Ext.refl Y).drew.trans x9).trans xA
      have hO9 := (HO.out.ext hxa).ext hyA
      refine wpAnyH_one (i := 8) (fuel := 1) rfl (by kernel_rfl) rfl fun K' hK => ?_
      refine wpAppU_step (ops := #[]) elemHd (.tmp 12) (.tmp 19) rfl (v := v) (base := w.heap.size) rfl hO9.own (m := [((P9, c9, L), K)]) rfl (SlG.one elemHd.hk ((P9, c9, L), K) rfl rfl) (fun e => by cases e) (by have := HLL.out; simp; omega) (by have := HLL.out; simp; omega) (hxwa.trans hyA).size ?_
      intro v7 w7 ho7 hg7 hb7 hob7
      have h9lo : ∀ b off, P9 = some ⟨b, off, none⟩ → Y.heap.size ≤ b := fun b off e => by
        subst e
        exact (own_lt ho9 (g := b) rfl).1
      have hvlt : ∀ g, v.ownBlock = some g → g < wr.heap.size ∧ w.heap.size ≤ g := fun g hg => by
        have := own_lt HO.out.own hg
        omega
      have hYw : wr.heap.size ≤ Y.heap.size := hxa.size
      have hO7 := hO9.app (x := ((P9, c9, L), K)) ⟨hs9.ext xA, hn9, fun _ b off e hb => by have := h9lo b off e; omega⟩ (fun g hg _ b off e hb => by have h1 := h9lo b off e; have h2 := hvlt g hg; omega) ho7 hg7 hob7
      have hu7 := UpdF.of_grown hg7
      have hwrl : wr.heap.size < Y.heap.size := by
        have := block_lt b0
        exact this
      have s1 := hu7.cell s1 (fun e => by have := hvlt _ e; simp only at this; omega)
      have s2 := hu7.cell s2 (fun e => by have := hvlt _ e; simp only at this; omega)
      refine hK _ _ ⟨s1, s2⟩ ?_
      clear hK K'
      refine wpAnyH_one (i := 9) (fuel := 0) rfl (by kernel_rfl) rfl fun K' hK => ?_
      go_simp
      refine hK _ _ ⟨s1, s2⟩ ?_
      clear hK K'
      refine wpAnyH_done (by kernel_rfl) ?_ 0
      refine NoPanic.normal ?_
      have hx7 := hu7.ext (hxwa.trans hyA) (fun i hi => (hvlt i hi).2)
      clear s1 s2 b0 b1 ho7 hg7 hb7 hob7 hu7 ho9
      go_wp2_with (fail)
      go_roundw
      case rel => exact ⟨j + 1, _, _, by omega, by go_num, rfl, hO7, by rw [List.map_append, HAB.out, HTK.out]; rfl, hx7⟩
      case measure => simp [intOf]; omega
    · obtain rfl : j = l.length := by omega
      go_wp2_with (fail)
      go_ret
      exact ⟨_, l', rfl, hO, by rw [hab, List.take_length], hx⟩
end
section
open Go.RowKit Go.Maps
set_option linter.unusedVariables false
set_option maxRecDepth 20000
set_option linter.unusedSimpArgs false
set_option linter.unusedSectionVars false
set_option maxRecDepth 100000
attribute [local go_sem] Oper.semAt_some

/-- buckets of the call's own: F are their blocks -/
structure BkO (w : World) (F : Nat → Prop) (P : Option Addr) (c : Nat) (raw : List BkR) : Prop where
  own : OwnG csBk 34 2 w 0 (.slice P raw.length c) raw
  ents : ∀ (i : Nat) (x : BkR), raw[i]? = some x → OwnG csHd 36 2 w 0 (.slice x.1.1 x.1.2.2.length x.1.2.1) x.1.2.2
  rows : ∀ x ∈ raw, ∀ y ∈ x.1.2.2, SlV w y.1.1 y.1.2.1 y.1.2.2 ∧ (y.1.1 = none → y.1.2.1 = 0) ∧ Off F y.1.1 y.1.2.2
  FP : ∀ a, P = some a → F a.block
  Fe : ∀ (i : Nat) (x : BkR) (a : Addr), raw[i]? = some x → x.1.1 = some a → F a.block ∧ ∀ a', P = some a' → a'.block ≠ a.block
  Fd : ∀ (i j : Nat) (x y : BkR) (a b : Addr), raw[i]? = some x → raw[j]? = some y → x.1.1 = some a → y.1.1 = some b → a.block = b.block → i = j
  Flt : ∀ k, F k → k < w.heap.size
theorem BkO.ext {w w' : World} {F : Nat → Prop} {P : Option Addr} {c : Nat} {raw : List BkR} (H : BkO w F P c raw) (hx : Ext w w') : BkO w' F P c raw :=
  ⟨H.own.ext hx, fun i x hi => (H.ents i x hi).ext hx, fun x hx' y hy => ⟨(H.rows x hx' y hy).1.ext hx, (H.rows x hx' y hy).2⟩, H.FP, H.Fe, H.Fd, fun k hk => Nat.lt_of_lt_of_le (H.Flt k hk) hx.size⟩
theorem BkO.nil (w : World) : BkO w (fun _ => False) none 0 [] :=
  ⟨OwnG.nil _ _ _ _ _, (fun i x hi => by simp at hi), (fun x hx => by simp at hx), (fun a ha => by cases ha), (fun i x a hi => by simp at hi), (fun i j x y a b hi => by simp at hi), fun k hk => hk.elim⟩
theorem app_get {l : List BkR} {x : BkR} {j : Nat} {y : BkR} (hj : (l ++ [x])[j]? = some y) : l[j]? = some y ∨ (j = l.length ∧ y = x) := by
  have hj1 := (List.getElem?_eq_some_iff.1 hj).1
  rw [List.length_append, List.length_singleton] at hj1
  by_cases h1 : j < l.length
  · rw [List.getElem?_append_left h1] at hj
    exact .inl hj
  · obtain rfl : j = l.length := by omega
    simp at hj
    exact .inr ⟨rfl, hj.symm⟩
/-- a bucket with entries of its own was appended -/
theorem BkO.app {w0 W w1 w7 : World} {F : Nat → Prop} {P : Option Addr} {c : Nat} {l : List BkR} (H : BkO W F P c l) (hx1 : Ext W w1) {Px : Option Addr} {cx : Nat} {lx : List HdR} {nx : Int} (hX : OwnH W w1 (.slice Px lx.length cx) lx)
    {v7 : Value} (ho : OwnG csBk 34 2 w7 0 v7 (l ++ [((Px, cx, lx), nx)])) (hg : w1.grownBy w7 (Value.slice P l.length c).ownBlock) (hob : v7.ownBlock = (Value.slice P l.length c).ownBlock ∨ v7.ownBlock = some w1.heap.size) (hl : l.length ≤ 10000) (hF0 : ∀ k, F k → w0.heap.size ≤ k) (h0 : w0.heap.size ≤ W.heap.size) :
    ∃ P7 c7 F7, v7 = .slice P7 (l.length + 1) c7 ∧ BkO w7 F7 P7 c7 (l ++ [((Px, cx, lx), nx)]) ∧ (∀ k, F7 k → w0.heap.size ≤ k) := by
  have hu := UpdF.of_grown hg
  obtain ⟨P7, c7, rfl, _, _⟩ := ho.read elemBk (by simp; omega)
  have hlen : (l ++ [((Px, cx, lx), nx)] : List BkR).length = l.length + 1 := by simp
  have H1 := H.ext hx1
  have hP7 : ∀ a, P7 = some a → (∃ a', P = some a' ∧ a'.block = a.block) ∨ a.block = w1.heap.size := fun a ha => by
    rcases hob with e | e
    · rw [own_of ha] at e
      obtain ⟨a', e1, e2⟩ := slice_own e.symm
      exact .inl ⟨a', e1, e2⟩
    · rw [own_of ha] at e
      injection e with e
      exact .inr e
  have hPF : ∀ i, (Value.slice P l.length c).ownBlock = some i → F i := fun i hi => by
    obtain ⟨a, e, e2⟩ := slice_own hi
    exact e2 ▸ H.FP a e
  have hPx : ∀ a, Px = some a → W.heap.size ≤ a.block ∧ a.block < w1.heap.size := fun a ha => own_lt hX.own (own_of ha)
  have hsz := hx1.size
  rw [hlen] at ho hob ⊢
  refine ⟨P7, c7, fun k => F k ∨ (∃ a, P7 = some a ∧ k = a.block) ∨ ∃ a, Px = some a ∧ k = a.block, rfl, ⟨?_, fun i x hi => ?_, fun x hx y hy => ?_, fun a ha => .inr (.inl ⟨a, ha, rfl⟩), fun i x a hi ha => ?_, fun i j x y a b hi hj ha hb hab => ?_, fun k hk => ?_⟩, fun k hk => ?_⟩
  · rw [hlen]
    exact ho
  · rcases app_get hi with h1 | ⟨_, rfl⟩
    · refine (H1.ents i x h1).upd hu (fun g hg' e => ?_)
      obtain ⟨a, e1, e2⟩ := slice_own hg'
      obtain ⟨a', e3, e4⟩ := slice_own e
      exact (H.Fe i x a h1 e1).2 a' e3 (by omega)
    · refine (hX.own.lower (Nat.zero_le _)).upd hu (fun g hg' e => ?_)
      obtain ⟨a, e1, e2⟩ := slice_own hg'
      have h1 := hPx a e1
      have h2 := H.Flt _ (hPF _ e)
      omega
  · rcases List.mem_append.1 hx with h1 | h1
    · have h2 := H.rows x h1 y hy
      have h3 := H1.rows x h1 y hy
      refine ⟨h3.1.upd hu (h3.2.2.mono (fun i hi => hPF i hi)), h2.2.1, (h2.2.2.or (h2.1.lt vl_pos)).mono (fun k hk => ?_)⟩
      rcases hk with hk | ⟨a, ha, rfl⟩ | ⟨a, ha, rfl⟩
      · exact .inl hk
      · rcases hP7 a ha with ⟨a', e1, e2⟩ | e
        · exact .inl (e2 ▸ H.FP a' e1)
        · exact .inr (by omega)
      · exact .inr (hPx a ha).1
    · obtain rfl := List.mem_singleton.1 h1
      have h2 := hX.row y hy
      have h4 : Off (fun i => Px = none → False) y.1.1 y.1.2.2 ∨ True := .inr trivial
      refine ⟨h2.1.upd hu (h2.2.2.mono (fun i hi => H.Flt i (hPF i hi))), h2.2.1, fun hne b off e hb => ?_⟩
      rcases hb with hb | ⟨a, ha, e2⟩ | ⟨a, ha, e2⟩
      · exact h2.2.2 hne b off e (H.Flt _ hb)
      · rcases hP7 a ha with ⟨a', e1, e3⟩ | e3
        · exact h2.2.2 hne b off e (by have := H.Flt _ (H.FP a' e1); omega)
        · have := (h2.1.lt vl_pos) hne b off e
          omega
      · exact hX.sep a.block (own_of ha) y hy hne b off e e2
  · rcases app_get hi with h1 | ⟨_, rfl⟩
    · obtain ⟨f1, f2⟩ := H.Fe i x a h1 ha
      refine ⟨.inl f1, fun a' ha' e => ?_⟩
      rcases hP7 a' ha' with ⟨a2, h2, h3⟩ | h2
      · exact f2 a2 h2 (by omega)
      · have := H.Flt _ f1
        omega
    · refine ⟨.inr (.inr ⟨a, ha, rfl⟩), fun a' ha' e => ?_⟩
      have h5 := hPx a ha
      rcases hP7 a' ha' with ⟨a2, h2, h3⟩ | h2
      · have := H.Flt _ (H.FP a2 h2)
        omega
      · omega
  · rcases app_get hi with h1 | ⟨e1, rfl⟩
    · rcases app_get hj with h2 | ⟨e2, rfl⟩
      · exact H.Fd i j x y a b h1 h2 ha hb hab
      · have h5 := hPx b hb
        have h6 := H.Flt _ (H.Fe i x a h1 ha).1
        omega
    · rcases app_get hj with h2 | ⟨e2, rfl⟩
      · have h5 := hPx a ha
        have h6 := H.Flt _ (H.Fe j y b h2 hb).1
        omega
      · omega
  · have hus := hu.size
    rcases hk with hk | ⟨a, ha, rfl⟩ | ⟨a, ha, rfl⟩
    · have := H.Flt k hk; omega
    · exact (own_lt ho (own_of ha)).2
    · have := hPx a ha; omega
  · rcases hk with hk | ⟨a, ha, rfl⟩ | ⟨a, ha, rfl⟩
    · exact hF0 k hk
    · rcases hP7 a ha with ⟨a', e1, e2⟩ | e
      · exact hF0 _ (e2 ▸ H.FP a' e1)
      · omega
    · have := hPx a ha; omega
/-- read -/
theorem BkO.sl {w : World} {F : Nat → Prop} {P : Option Addr} {c : Nat} {raw : List BkR} (H : BkO w F P c raw) (hn : raw.length ≤ 100000) (hl : ∀ x ∈ raw, x.1.2.2.length ≤ 100000) : SlB w P c raw := by
  obtain ⟨P', c', e, hs, hn'⟩ := H.own.read elemBk (by omega)
  injection e with e1 _ e2
  subst e1 e2
  refine ⟨hs, hn', fun x hx => ?_⟩
  obtain ⟨i, hi⟩ := List.mem_iff_getElem?.1 hx
  obtain ⟨P', c', e, hs, hn2⟩ := (H.ents i x hi).read elemHd (by have := hl x hx; omega)
  injection e with e1 _ e2
  subst e1 e2
  exact ⟨hs, hn2, fun y hy => ⟨(H.rows x hx y hy).1, (H.rows x hx y hy).2.1⟩⟩
/-- the rows lie in blocks from n on -/
def NewRows (n : Nat) (l : List BkR) : Prop := ∀ x ∈ l, ∀ y ∈ x.1.2.2, Off (fun i => i < n) y.1.1 y.1.2.2
theorem NewRows.app {n : Nat} {w w1 : World} {l : List BkR} (H : NewRows n l) {v : Value} {A : Option Addr} {B : Nat} {lx : List HdR} {K : Int} (h : OwnH w w1 v lx) (hn : n ≤ w.heap.size) : NewRows n (l ++ [((A, B, lx), K)]) := fun x hx y hy => by
  rcases List.mem_append.1 hx with h1 | h1
  · exact H x h1 y hy
  · obtain rfl := List.mem_singleton.1 h1
    exact (h.row y hy).2.2.mono (fun i hi => by omega)
/-- how Buckets answers -/
def BucketsP (raw : List BkR) (w : World) (e : Ending) (w' : World) : Prop := ∃ P' c' F' l', e = .returned (.slice P' l'.length c') ∧ BkO w' F' P' c' l' ∧ (∀ k, F' k → w.heap.size ≤ k) ∧ absT l' = absT raw ∧ Ext w w' ∧ NewRows w.heap.size l'
set_option maxHeartbeats 8000000 in
theorem buckets_any (t : Nat) (h r : Int) (P : Option Addr) (c : Nat) (l : List BkR) (w : World) (H : CtR w t h r P c l) (hl : l.length ≤ 5000) (he : ∀ x ∈ l, x.1.2.2.length ≤ 100000) (hr : ∀ x ∈ l, ∀ y ∈ x.1.2.2, y.1.2.2.length ≤ 100000) :
    Calls Tryd.prog 16 #[.pointer (some ⟨t, 0, none⟩)] w (BucketsP l w) := by
  have a2 := H.box.cell (i := 2) rfl
  go_enter Tryd.func16, Tryd.ntmps16
  go_wp2_with (fail)
  go_loopw [13, 3, 5] (fun i u _ wr => ∃ (j : Nat) (l' : List BkR) (P' : Option Addr) (c' : Nat) (F' : Nat → Prop), j ≤ l.length ∧ i = .int .i64 j ∧ Value.slice P' l'.length c' = u ∧ BkO wr F' P' c' l' ∧ (∀ k, F' k → w.heap.size ≤ k) ∧ absT l' = (absT l).take j ∧ Ext w wr ∧ NewRows w.heap.size l') (fun i _ _ _ => l.length - (intOf i).toNat)
  case atStart => exact ⟨0, [], none, 0, _, by omega, rfl, rfl, BkO.nil _, fun k hk => hk.elim, rfl, Ext.refl _, fun x hx => by cases hx⟩
  case round =>
    obtain ⟨j, l', P', c', F', hj, rfl, rfl, hO, hF', hab, hx, hnr⟩ := hrel
    by_cases hlt : j < l.length
    · have cj : (j : Int) < l.length := by omega
      have d1 : IntKind.i64.wrap ((j : Int) + 1) = (j : Int) + 1 := IntWalk.i64_in _ ⟨by omega, by omega⟩
      obtain ⟨b, off, hP, g0, g1⟩ := (H.sl.ext hx).at_ j hlt
      subst hP
      have hen := H.sl.ent _ (nthBk_mem hlt)
      have hel := he _ (nthBk_mem hlt)
      have hrl := hr _ (nthBk_mem hlt)
      have HTK := fun x hx' => Lib.hid (absT_snoc (x := x) hlt hab hx')
      have hll := absT_len_take hj hab
      generalize nthBk l j = x at *
      obtain ⟨⟨A, B, L⟩, K⟩ := x
      dsimp only at g0 g1 hen hel hrl
      have hC := fun W (hx' : Ext w W) => owned_any A B L W (hen.ext hx') hel hrl
      have HO := Lib.hid hO
      have HNR := Lib.hid hnr
      have HX := Lib.hid hx
      have HLL := Lib.hid hll
      have hbx := BoxN.new wr 34 #[.slice A L.length B, .int .i64 K]
      have b0 := hbx.cell (i := 0) rfl
      have b1 := hbx.cell (i := 1) rfl
      have hxa := (Ext.refl wr).alloc (.cells #[.slice A L.length B, .int .i64 K] 34)
      have hxwa := hx.trans hxa
      clear hO hab hen hll hnr
      go_wp2_with (fail)
      have hszw := hx.size
      generalize wr.alloc (.cells #[.slice A L.length B, .int .i64 K] 34) = Y at *
      have s1 : Y.drew.cell? ⟨wr.heap.size, 0, none⟩ = some (.slice A L.length B) := b0
      have s2 : Y.drew.cell? ⟨wr.heap.size, 1, none⟩ = some (.int .i64 K) := b1
      refine wp_region_noPanic ?_
      refine wp_region_held (S := fun w' => w'.cell? ⟨wr.heap.size, 0, none⟩ = some (.slice A L.length B) ∧ w'.cell? ⟨wr.heap.size, 1, none⟩ = some (.int .i64 K)) (by kernel_rfl) ?_
      refine wpAnyH_take (i := 0) (v := .slice P' l'.length c') (fuel := 9) rfl (by kernel_rfl) (by kernel_rfl) (by kernel_rfl) (fun _ _ _ h => h) (.inl ⟨rfl, fun W hS => by obtain ⟨e2, e3⟩ := hS; go_simp⟩) ⟨s1, s2⟩ ?_
      refine wpAnyH_take (i := 1) (v := .pointer (some ⟨wr.heap.size, 0, none⟩)) (fuel := 8) rfl (by kernel_rfl) (by kernel_rfl) (by kernel_rfl) (fun _ _ _ h => h) (.inl ⟨rfl, fun W hS => by obtain ⟨e2, e3⟩ := hS; go_simp⟩) ⟨s1, s2⟩ ?_
      refine wpAnyH_take (i := 2) (v := .slice A L.length B) (fuel := 7) rfl (by kernel_rfl) (by kernel_rfl) (by kernel_rfl) (fun _ _ _ h => h) (.inl ⟨rfl, fun W hS => by obtain ⟨e2, e3⟩ := hS; go_simp⟩) ⟨s1, s2⟩ ?_
      refine wpAnyH_take (i := 4) (v := .pointer (some ⟨wr.heap.size, 1, none⟩)) (fuel := 6) rfl (by kernel_rfl) (by kernel_rfl) (by kernel_rfl) (fun _ _ _ h => h) (.inl ⟨rfl, fun W hS => by obtain ⟨e2, e3⟩ := hS; go_simp⟩) ⟨s1, s2⟩ ?_
      refine wpAnyH_take (i := 5) (v := .int .i64 K) (fuel := 5) rfl (by kernel_rfl) (by kernel_rfl) (by kernel_rfl) (fun _ _ _ h => h) (.inl ⟨rfl, fun W hS => by obtain ⟨e2, e3⟩ := hS; go_simp⟩) ⟨s1, s2⟩ ?_
      refine wpAnyH_one (i := 3) (fuel := 4) rfl (by kernel_rfl) rfl fun K' hK => ?_
      go_simp
      refine (hC _ (hxwa.trans (Ext.refl _).drew)).mono ?_
      rintro e w9 ⟨v9, lx, rfl, hX9, hxm, x9⟩
      have hlx : lx.length = L.length := by have := congrArg List.length hxm; simpa using this
      obtain ⟨P9, c9, rfl, _⟩ := hX9.own.read elemHd (by omega)
      clear hlx
      have s1 := x9.cell s1
      have s2 := x9.cell s2
      refine hK _ _ ⟨s1, s2⟩ ?_
      clear hK K' hC
      refine wpAnyH_one (i := 6) (fuel := 3) rfl (by kernel_rfl) rfl fun K' hK => ?_
      go_simp
      refine hK _ _ ⟨s1, s2⟩ ?_
      clear hK K'
      refine wpAnyH_one (i := 7) (fuel := 2) rfl (by kernel_rfl) rfl fun K' hK => ?_
      go_simp
      have xA := (Ext.refl w9).alloc (.cells #[.slice P9 lx.length c9, .int .i64 K] 34)
      have s1 := xA.cell s1
      have s2 := xA.cell s2
      refine hK _ _ ⟨s1, s2⟩ ?_
      clear hK K'
      have hyA := x9.trans xA
      have hY0 := HO.out.ext (hxa.trans (Ext.refl Y).drew)
      have hO9 := hY0.ext hyA
      refine wpAnyH_one (i := 8) (fuel := 1) rfl (by kernel_rfl) rfl fun K' hK => ?_
      refine wpAppU_step (ops := #[]) elemBk (.tmp 17) (.tmp 24) rfl (v := .slice P' l'.length c') (base := 0) rfl hO9.own (m := [((P9, c9, lx), K)]) rfl (SlG.one elemBk.hk ((P9, c9, lx), K) rfl rfl) (fun e => by cases e) (by have := HLL.out; simp; omega) (by have := HLL.out; simp; omega) (Nat.zero_le _) ?_
      intro v7 w7 ho7 hg7 hb7 hob7
      have hYw : wr.heap.size ≤ Y.heap.size := hxa.size
      obtain ⟨P7, c7, F7, rfl, hO7, hF7⟩ := hY0.app hyA (hX9.ext xA) ho7 hg7 hob7 (by have := HLL.out; omega) hF' (hxwa.trans (Ext.refl _).drew).size
      have hu7 := UpdF.of_grown hg7
      have hvlt : ∀ g, (Value.slice P' l'.length c').ownBlock = some g → g < wr.heap.size ∧ w.heap.size ≤ g := fun g hg => by
        obtain ⟨a, e1, e2⟩ := slice_own hg
        have h1 := HO.out.FP a e1
        exact ⟨e2 ▸ HO.out.Flt _ h1, e2 ▸ hF' _ h1⟩
      have s1 := hu7.cell s1 (fun e => by have := hvlt _ e; simp only at this; omega)
      have s2 := hu7.cell s2 (fun e => by have := hvlt _ e; simp only at this; omega)
      refine hK _ _ ⟨s1, s2⟩ ?_
      clear hK K'
      refine wpAnyH_one (i := 9) (fuel := 0) rfl (by kernel_rfl) rfl fun K' hK => ?_
      go_simp
      refine hK _ _ ⟨s1, s2⟩ ?_
      clear hK K'
      refine wpAnyH_done (by kernel_rfl) ?_ 0
      refine NoPanic.normal ?_
      have hx7 := hu7.ext (hxwa.trans ((Ext.refl Y).drew.trans hyA)) (fun i hi => (hvlt i hi).2)
      have HT7 := Lib.hid (HTK ((P9, c9, lx), K) (by unfold bkA; rw [hxm])).out
      have HNR7 := Lib.hid (NewRows.app (A := P9) (B := c9) (K := K) HNR.out hX9 (hxwa.trans (Ext.refl _).drew).size)
      clear s1 s2 b0 b1 ho7 hg7 hb7 hob7 hu7 HTK
      have hl7 : (l' ++ [((P9, c9, lx), K)]).length = l'.length + 1 := by simp
      go_wp2_with (fail)
      go_roundw
      case rel => exact ⟨j + 1, _, P7, c7, F7, by omega, by go_num, by rw [hl7], hO7, hF7, HT7.out, hx7, HNR7.out⟩
      case measure => simp [intOf]; omega
    · obtain rfl : j = l.length := by omega
      go_wp2_with (fail)
      go_ret
      exact ⟨P', c', F', l', rfl, hO, hF', by rw [hab, ← absT_len, List.take_length], hx, hnr⟩
end
section
open Go.RowKit Go.Maps
set_option linter.unusedVariables false
set_option maxRecDepth 20000
set_option linter.unusedSimpArgs false
set_option linter.unusedSectionVars false
set_option maxRecDepth 100000
attribute [local go_sem] Oper.semAt_some

/-- a table around buckets -/
theorem BkO.table {w : World} {F : Nat → Prop} {P : Option Addr} {c : Nat} {l : List BkR} (H : BkO w F P c l) (h r : Nat) :
    CtO (w.alloc (.cells #[.int .i64 h, .int .i64 r, .slice P l.length c] 69)) (fun k => F k ∨ k = w.heap.size) w.heap.size h r P c l := by
  have hx := (Ext.refl w).alloc (.cells #[.int .i64 h, .int .i64 r, .slice P l.length c] 69)
  refine ⟨BoxN.new w _ _, H.own.ext hx, fun i x hi => (H.ents i x hi).ext hx, fun x hx' y hy => ?_, .inr rfl, fun a ha => ⟨.inl (H.FP a ha), fun e => by have := H.Flt _ (H.FP a ha); omega⟩, fun i x a hi ha => ⟨.inl (H.Fe i x a hi ha).1, fun e => by have := H.Flt _ (H.Fe i x a hi ha).1; omega, (H.Fe i x a hi ha).2⟩, H.Fd, fun k hk => ?_⟩
  · have h1 := H.rows x hx' y hy
    exact ⟨h1.1.ext hx, h1.2.1, (h1.2.2.or (h1.1.lt vl_pos)).mono (fun k hk => hk.imp id (fun e => Nat.le_of_eq e.symm))⟩
  · rw [World.size_alloc]
    rcases hk with hk | rfl
    · have := H.Flt k hk; omega
    · omega
/-- how Copy answers -/
def CopyP (h r : Nat) (raw : List BkR) (w : World) (e : Ending) (w' : World) : Prop := ∃ tn P' c' F' l', e = .returned (.pointer (some ⟨tn, 0, none⟩)) ∧ CtO w' F' tn h r P' c' l' ∧ (∀ k, F' k → w.heap.size ≤ k) ∧ absT l' = absT raw ∧ Ext w w' ∧ NewRows w.heap.size l'
theorem copy_any (t h r : Nat) (P : Option Addr) (c : Nat) (l : List BkR) (w : World) (H : CtR w t h r P c l) (hl : l.length ≤ 5000) (he : ∀ x ∈ l, x.1.2.2.length ≤ 100000) (hr : ∀ x ∈ l, ∀ y ∈ x.1.2.2, y.1.2.2.length ≤ 100000) :
    Calls Tryd.prog 31 #[.pointer (some ⟨t, 0, none⟩)] w (CopyP h r l w) := by
  have hB := fun W (hx : Ext w W) => buckets_any t h r P c l W (H.ext hx) hl he hr
  have a0 := H.box.cell (i := 0) rfl
  have a1 := H.box.cell (i := 1) rfl
  go_enter Tryd.func31, Tryd.ntmps31
  go_wp2_with (fail)
  have s1 : w.drew.cell? ⟨t, 0, none⟩ = some (.int .i64 h) := a0
  have s2 : w.drew.cell? ⟨t, 1, none⟩ = some (.int .i64 r) := a1
  refine wp_region_noPanic ?_
  refine wp_region_held (S := fun w' => w'.cell? ⟨t, 0, none⟩ = some (.int .i64 h) ∧ w'.cell? ⟨t, 1, none⟩ = some (.int .i64 r)) (by kernel_rfl) ?_
  refine wpAnyH_take (i := 0) (v := .pointer (some ⟨t, 0, none⟩)) (fuel := 12) rfl (by kernel_rfl) (by kernel_rfl) (by kernel_rfl) (fun _ _ _ h => h) (.inl ⟨rfl, fun W hS => by obtain ⟨e2, e3⟩ := hS; go_simp⟩) ⟨s1, s2⟩ ?_
  refine wpAnyH_take (i := 1) (v := .pointer (some ⟨t, 0, none⟩)) (fuel := 11) rfl (by kernel_rfl) (by kernel_rfl) (by kernel_rfl) (fun _ _ _ h => h) (.inl ⟨rfl, fun W hS => by obtain ⟨e2, e3⟩ := hS; go_simp⟩) ⟨s1, s2⟩ ?_
  refine wpAnyH_take (i := 2) (v := .pointer (some ⟨t, 0, none⟩)) (fuel := 10) rfl (by kernel_rfl) (by kernel_rfl) (by kernel_rfl) (fun _ _ _ h => h) (.inl ⟨rfl, fun W hS => by obtain ⟨e2, e3⟩ := hS; go_simp⟩) ⟨s1, s2⟩ ?_
  refine wpAnyH_take (i := 3) (v := .int .i64 h) (fuel := 9) rfl (by kernel_rfl) (by kernel_rfl) (by kernel_rfl) (fun _ _ _ h => h) (.inl ⟨rfl, fun W hS => by obtain ⟨e2, e3⟩ := hS; go_simp⟩) ⟨s1, s2⟩ ?_
  refine wpAnyH_take (i := 4) (v := .pointer (some ⟨t, 0, none⟩)) (fuel := 8) rfl (by kernel_rfl) (by kernel_rfl) (by kernel_rfl) (fun _ _ _ h => h) (.inl ⟨rfl, fun W hS => by obtain ⟨e2, e3⟩ := hS; go_simp⟩) ⟨s1, s2⟩ ?_
  refine wpAnyH_take (i := 5) (v := .pointer (some ⟨t, 0, none⟩)) (fuel := 7) rfl (by kernel_rfl) (by kernel_rfl) (by kernel_rfl) (fun _ _ _ h => h) (.inl ⟨rfl, fun W hS => by obtain ⟨e2, e3⟩ := hS; go_simp⟩) ⟨s1, s2⟩ ?_
  refine wpAnyH_take (i := 6) (v := .pointer (some ⟨t, 1, none⟩)) (fuel := 6) rfl (by kernel_rfl) (by kernel_rfl) (by kernel_rfl) (fun _ _ _ h => h) (.inl ⟨rfl, fun W hS => by obtain ⟨e2, e3⟩ := hS; go_simp⟩) ⟨s1, s2⟩ ?_
  refine wpAnyH_take (i := 7) (v := .int .i64 r) (fuel := 5) rfl (by kernel_rfl) (by kernel_rfl) (by kernel_rfl) (fun _ _ _ h => h) (.inl ⟨rfl, fun W hS => by obtain ⟨e2, e3⟩ := hS; go_simp⟩) ⟨s1, s2⟩ ?_
  refine wpAnyH_take (i := 8) (v := .pointer (some ⟨t, 0, none⟩)) (fuel := 4) rfl (by kernel_rfl) (by kernel_rfl) (by kernel_rfl) (fun _ _ _ h => h) (.inl ⟨rfl, fun W hS => by obtain ⟨e2, e3⟩ := hS; go_simp⟩) ⟨s1, s2⟩ ?_
  refine wpAnyH_one (i := 9) (fuel := 3) rfl (by kernel_rfl) rfl fun K' hK => ?_
  go_simp
  refine (hB _ (Ext.refl _).drew).mono ?_
  rintro e w9 ⟨P9, c9, F9, l9, rfl, hO, hF, hab, x9, hnr⟩
  have s1 := x9.cell s1
  have s2 := x9.cell s2
  refine hK _ _ ⟨s1, s2⟩ ?_
  clear hK K' hB
  refine wpAnyH_one (i := 10) (fuel := 2) rfl (by kernel_rfl) rfl fun K' hK => ?_
  go_simp
  refine hK _ _ ⟨s1, s2⟩ ?_
  clear hK K'
  refine wpAnyH_one (i := 11) (fuel := 1) rfl (by kernel_rfl) rfl fun K' hK => ?_
  go_simp
  have xA := (Ext.refl w9).alloc (.cells #[.int .i64 h, .int .i64 r, .slice P9 l9.length c9] 69)
  have HT := hO.table h r
  have s1 := xA.cell s1
  have s2 := xA.cell s2
  refine hK _ _ ⟨s1, s2⟩ ?_
  clear hK K'
  refine wpAnyH_one (i := 12) (fuel := 0) rfl (by kernel_rfl) rfl fun K' hK => ?_
  go_simp
  refine hK _ _ ⟨s1, s2⟩ ?_
  clear hK K'
  refine wpAnyH_done (by kernel_rfl) ?_ 0
  refine NoPanic.normal ?_
  have hsz := x9.size
  have hd : w.drew.heap.size = w.heap.size := rfl
  clear s1 s2 a0 a1
  go_wp2_with (fail)
  go_ret
  refine ⟨w9.heap.size, P9, c9, _, l9, rfl, HT, fun k hk => ?_, hab, ((Ext.refl w).drew.trans x9).trans xA, hnr⟩
  rcases hk with hk | rfl
  · have := hF k hk; omega
  · omega
end
section
open Go.RowKit Go.Maps
set_option linter.unusedVariables false
set_option maxRecDepth 20000
set_option linter.unusedSimpArgs false
set_option linter.unusedSectionVars false
set_option maxRecDepth 100000
attribute [local go_sem] Oper.semAt_some

instance decHd : DecidableEq Hd := inferInstanceAs (DecidableEq (List Vl × Int))
instance decBk : DecidableEq (Bkt Hd) := inferInstanceAs (DecidableEq (List Hd × Int))
/-- the example's row -/
def awRow : List Vl := [(1, 4, ⟨#[]⟩)]
/-- the example's table behind so many acts -/
def awT : Nat → List (Bkt Hd)
  | 0 => emptyT 1
  | n + 1 => insT 1 2 (awT n) awRow (n + 1 : Nat) false
theorem awT_full : ∀ n, FullT hdV hdH 1 2 (awT n)
  | 0 => FullT.empty hdV hdH (by omega) (by omega) (by omega) (by omega)
  | n + 1 => insT_full (awT_full n) awRow (n + 1 : Nat) false
theorem awAsk (k : Int) (h : keyB k = true) : askB awRow k = true := by
  unfold askB
  rw [h, Bool.and_true]
  decide +kernel
theorem insE1 (T : List (Bkt Hd)) (k : Int) (h : keyB k = true) : insE 1 T awRow k false = if dupB (runE T 0) awRow k false = true then 6 else if 500 ≤ cntT T then 4 else 0 := by
  unfold insE
  rw [if_neg (by rw [awAsk k h]; decide), Nat.mod_one]
theorem insT1 (T : List (Bkt Hd)) (k : Int) (h : insE 1 T awRow k false = 0) : insT 1 2 T awRow k false = insF 1 2 T 0 (awRow, k) := by
  unfold insT
  rw [if_pos h, Nat.mod_one]
theorem aw1e : insE 1 (awT 0) awRow 1 false = 0 := by rw [insE1 _ _ (by decide)]; decide +kernel
theorem aw1 : awT 1 = [([(awRow, 1)], -1)] := by
  show insT 1 2 (awT 0) awRow ((0 + 1 : Nat) : Int) false = _
  rw [show ((0 + 1 : Nat) : Int) = 1 from rfl, insT1 _ _ aw1e]
  decide +kernel
theorem aw2e : insE 1 (awT 1) awRow 2 false = 0 := by rw [insE1 _ _ (by decide), aw1]; decide +kernel
theorem aw2 : awT 2 = [([(awRow, 1), (awRow, 2)], -1)] := by
  show insT 1 2 (awT 1) awRow ((1 + 1 : Nat) : Int) false = _
  rw [show ((1 + 1 : Nat) : Int) = 2 from rfl, insT1 _ _ aw2e, aw1]
  decide +kernel
theorem aw3e : insE 1 (awT 2) awRow 3 false = 0 := by rw [insE1 _ _ (by decide), aw2]; decide +kernel
theorem aw3 : awT 3 = [([(awRow, 1), (awRow, 2)], 1), ([(awRow, 3)], -1)] := by
  show insT 1 2 (awT 2) awRow ((2 + 1 : Nat) : Int) false = _
  rw [show ((2 + 1 : Nat) : Int) = 3 from rfl, insT1 _ _ aw3e, aw2]
  decide +kernel
theorem awE (n : Nat) (h : n < 3) : insE 1 (awT n) awRow ((n : Int) + 1) false = 0 := by
  match n, h with
  | 0, _ => exact aw1e
  | 1, _ => exact aw2e
  | 2, _ => exact aw3e
theorem aw4e : remE 1 (awT 3) awRow 1 = 0 := by
  unfold remE
  rw [if_neg (by rw [awAsk 1 (by decide)]; decide), Nat.mod_one, aw3]
  decide +kernel
theorem aw4 : remT 1 2 (awT 3) awRow 1 = [([(awRow, 2), (awRow, 3)], -1)] := by
  unfold remT
  rw [if_pos aw4e, Nat.mod_one, aw3]
  decide +kernel
theorem awT_len : ∀ n, n ≤ 3 → (awT n).length ≤ 2 := fun n hn => by
  match n, hn with
  | 0, _ => show (emptyT 1 : List (Bkt Hd)).length ≤ 2; decide
  | 1, _ => rw [aw1]; decide
  | 2, _ => rw [aw2]; decide
  | 3, _ => rw [aw3]; decide
theorem aw_bk {l : List BkR} (h : absT l = awT 3) : l.length = 2 ∧ (nthBk l 0).2 = 1 ∧ (nthBk l 1).1.2.2.length = 1 := by
  have h0 := congrArg List.length h
  rw [absT_len, aw3] at h0
  have h0 : l.length = 2 := h0
  have h1 := absT_bkt (l := l) (i := 0) (by omega)
  have h2 := absT_bkt (l := l) (i := 1) (by omega)
  rw [h, aw3] at h1 h2
  refine ⟨h0, (congrArg Prod.snd h1).symm, ?_⟩
  have h3 := congrArg (fun x : Bkt Hd => x.1.length) h2
  simp only [bkA, List.length_map] at h3
  exact h3.symm
theorem FullT.valid {V : Hd → Prop} {H : Hd → Nat} {h r : Nat} {T : List (Bkt Hd)} (F : FullT V H h r T) : ∀ x ∈ T, ∀ y ∈ x.1, V y := by
  obtain ⟨R, L, F⟩ := F
  intro x hx y hy
  obtain ⟨b, hb⟩ := List.mem_iff_getElem?.1 hx
  by_cases ex : ∃ k, k < h ∧ ∃ i : Nat, (R k)[i]? = some b
  · obtain ⟨k, hk, i, hi⟩ := ex
    have h1 := F.good.cell k hk i b hi
    rw [hb] at h1
    injection h1 with h1
    rw [h1] at hy
    exact (F.hom k hk y (List.mem_of_mem_drop (List.mem_of_mem_take hy))).1
  · have h1 := F.good.free b (List.getElem?_eq_some_iff.1 hb).1 (fun k hk i hi => ex ⟨k, hk, i, hi⟩)
    rw [hb] at h1
    injection h1 with h1
    rw [h1] at hy
    cases hy
theorem FullT.rows_ok {h r : Nat} {raw : List BkR} (hT : FullT hdV hdH h r (absT raw)) : ∀ x ∈ raw, ∀ y ∈ x.1.2.2, rowB y.1.2.2 = true := fun x hx y hy =>
  (hT.valid (bkA x) (List.mem_map.2 ⟨x, hx, rfl⟩) (hdA y) (List.mem_map.2 ⟨y, hy, rfl⟩)).1
theorem rows_le {h r : Nat} {raw : List BkR} (hT : FullT hdV hdH h r (absT raw)) : ∀ x ∈ raw, ∀ y ∈ x.1.2.2, y.1.2.2.length ≤ 100000 := fun x hx y hy => by
  have := rowB_len (hT.rows_ok x hx y hy)
  omega
set_option maxHeartbeats 8000000 in
theorem awake_any (w : World) (ht : Tab w) : Calls Tryd.prog 6 #[] w fun e w' => e = .returned (.bool true) ∧ Ext w w' := by
  have hN := new_yes 1 2 w (by decide)
  go_enter Tryd.func6, Tryd.ntmps6
  go_wp2_with (fail)
  refine hN.mono ?_
  rintro e w1 ⟨⟨t, P, c, F, rfl, H, hF⟩, hx1⟩
  dsimp only
  have H0 := H.ext ((Ext.refl w1).alloc (.cells #[.int .i64 1, .int .i64 4, .string ⟨#[]⟩] 50))
  have hrow : SlV (w1.alloc (.cells #[.int .i64 1, .int .i64 4, .string ⟨#[]⟩] 50)) (some ⟨w1.heap.size, 0, none⟩) 1 awRow := SlG.lit (k := 3) (fun _ => rfl) awRow rfl rfl rfl (by omega)
  have hx2 := hx1.alloc (.cells #[.int .i64 1, .int .i64 4, .string ⟨#[]⟩] 50)
  have hF2 : ∀ k, F k → w.heap.size ≤ k ∧ k ≠ w1.heap.size := fun k hk => ⟨hF k hk, by have := H.Flt k hk; omega⟩
  clear hN H hF
  have hab : absT (repB 1) = awT 0 := repB_abs 1
  have h1s := hx1.size
  have hg0 : w1.heap.size < (w1.alloc (.cells #[.int .i64 1, .int .i64 4, .string ⟨#[]⟩] 50)).heap.size := by simp
  have HE := fun n h => Lib.hid (awE n h)
  have HF := fun n => Lib.hid (awT_full n)
  have HL := fun n h => Lib.hid (awT_len n h)
  have HS := fun (n : Nat) => Lib.hid (show insT 1 2 (awT n) awRow ((n : Int) + 1) false = awT (n + 1) from rfl)
  go_wp2_with (fail)
  generalize w1.alloc (.cells #[.int .i64 1, .int .i64 4, .string ⟨#[]⟩] 50) = W2 at *
  generalize w1.heap.size = g at *
  go_loopw [4] (fun i wr => ∃ (n : Nat) (F : Nat → Prop) (P : Option Addr) (c : Nat) (raw : List BkR), n ≤ 3 ∧ i = .int .i64 ((n : Int) + 1) ∧ CtO wr F t 1 2 P c raw ∧ absT raw = awT n ∧ (∀ k, F k → w.heap.size ≤ k ∧ k ≠ g) ∧ Ext w wr ∧ SlV wr (some ⟨g, 0, none⟩) 1 awRow ∧ g < wr.heap.size) (fun i _ => 4 - (intOf i).toNat)
  case atStart => exact ⟨0, F, P, c, _, by omega, rfl, H0, hab, hF2, hx2, hrow, hg0⟩
  case round =>
    obtain ⟨n, F, P, c, raw, hn, rfl, H, hab, hF, hx, hr, hg⟩ := hrel
    have hT : FullT hdV hdH 1 2 (absT raw) := by rw [hab]; exact (HF n).out
    have hlen : raw.length ≤ 2 := by have := (HL n hn).out; rw [← hab, absT_len] at this; exact this
    by_cases hlt : n < 3
    · have c1 : (n : Int) + 1 ≤ 3 := by omega
      have d1 : IntKind.i64.wrap ((n : Int) + 1 + 1) = (n : Int) + 1 + 1 := IntWalk.i64_in _ ⟨by omega, by omega⟩
      have hI := insert_any F t 1 2 P c raw (some ⟨g, 0, none⟩) 1 awRow ((n : Int) + 1) false wr H hT (by omega) (ht.ext hx) hr (fun e => by cases e) (fun _ b off e hb => by injection e with e; injection e with e; subst e; exact (hF _ hb).2 rfl)
      rw [hab, (HE n hlt).out, (HS n).out] at hI
      change Calls _ _ #[_, .slice (some ⟨g, 0, none⟩) 1 1, _, _] _ _ at hI
      clear hab H hT HE HS HL
      go_wp2_with (fail)
      go_at_call 18
      refine hI.mono ?_
      rintro e w4 ⟨rfl, raw', hab', P', c', F', H', g1, g2, hu⟩
      dsimp only
      have hx4 := hu.ext hx (fun i hi => (hF i hi).1)
      have hr4 := hr.upd hu (fun _ b off e hb => by injection e with e; injection e with e; subst e; exact (hF _ hb).2 rfl)
      have hs4 := hu.size
      have hs0 := hx.size
      go_wp2_with (fail)
      go_roundw
      case rel => exact ⟨n + 1, F', P', c', raw', by omega, by go_num, H', hab', fun k hk => (g2 k hk).elim (hF k) (fun e => ⟨by omega, by omega⟩), hx4, hr4, by omega⟩
      case measure => simp [intOf]; omega
    · obtain rfl : n = 3 := by omega
      have hle := hT.ents_le
      have hBu := fun W (hx' : Ext wr W) => buckets_any t 1 2 P c raw W ((H.ext hx').ctr (by omega) hle) (by omega) hle (rows_le hT)
      have hRm := fun W (hx' : Ext wr W) => remove_any F t 1 2 P c raw (some ⟨g, 0, none⟩) 1 awRow 1 W (H.ext hx') hT (by omega) (ht.ext (hx.trans hx')) (hr.ext hx')
      rw [hab, aw4e, aw4] at hRm
      change ∀ W, Ext wr W → Calls _ _ #[_, .slice (some ⟨g, 0, none⟩) 1 1, _] _ _ at hRm
      have hF1 : FullT hdV hdH 1 2 ([([(awRow, 2), (awRow, 3)], -1)] : List (Bkt Hd)) := by have := remT_full (HF 3).out awRow 1; rwa [aw4] at this
      have HFX := Lib.hid hF
      clear HE HS HL HF
      go_wp2_with (fail)
      go_at_call 16
      refine (hBu _ (Ext.refl _)).mono ?_
      rintro e w5 ⟨P5, c5, F5, l5, rfl, hO5, hF5, hab5, hx5, hnr5⟩
      dsimp only
      obtain ⟨k1, k2, k3⟩ := aw_bk (hab5.trans hab)
      have hs5 := hO5.sl (by omega) (FullT.ents_le (by rw [hab5]; exact hT))
      obtain ⟨b, off, hP5, g0, g1⟩ := hs5.at_ 0 (by omega)
      obtain ⟨b', off', hP5', g2, g3⟩ := hs5.at_ 1 (by omega)
      rw [hP5] at hP5'
      injection hP5' with hP5'
      injection hP5' with e1 e2
      subst hP5 e1 e2
      rw [k2] at g1
      rw [k3] at g2
      rw [k1]
      generalize (nthBk l5 1).1.1 = q1 at *
      generalize (nthBk l5 1).1.2.1 = q2 at *
      clear g0 g3 k2 k3 hs5 hO5 hab hab5 k1
      go_wp2_with (fail)
      refine (hRm _ hx5).mono ?_
      rintro e w6 ⟨rfl, raw6, hab6, P6, c6, F6, H6, _, _, hu6⟩
      dsimp only
      have hT6 : FullT hdV hdH 1 2 (absT raw6) := by rw [hab6]; exact hF1
      have hl6 : raw6.length = 1 := by have := congrArg List.length hab6; rw [absT_len] at this; exact this
      have hle6 := hT6.ents_le
      have hB6 := buckets_any t 1 2 P6 c6 raw6 w6 (H6.ctr (by omega) hle6) (by omega) hle6 (rows_le hT6)
      have hx6 := hu6.ext (hx.trans hx5) (fun i hi => (HFX.out i hi).1)
      have HAB6 := Lib.hid hab6
      clear hRm hBu hT6 hle6 hab6 hl6 hF1 hT hle
      go_wp2_with (fail)
      refine hB6.mono ?_
      rintro e w7 ⟨P7, c7, F7, l7, rfl, _, _, hab7, hx7, _⟩
      dsimp only
      have hl7 : l7.length = 1 := by have := congrArg List.length (hab7.trans HAB6.out); rw [absT_len] at this; exact this
      rw [hl7]
      clear hl7 hab7
      go_wp2_with (fail)
      go_ret
      exact ⟨rfl, hx6.trans hx7⟩
end
end Go.Proofs.YtcbinafokhekmaaDoor
