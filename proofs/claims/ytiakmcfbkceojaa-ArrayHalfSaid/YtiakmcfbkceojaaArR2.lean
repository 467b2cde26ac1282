/- Arrays, the reference: put. -/
import Derived.Test.YtiakmcfbkceojaaArR1
import Derived.Deep.RegionHeld3
namespace Go.Proofs.Ytiakmcfbkceojaa
open Go.RowKit Go.Maps
set_option linter.unusedVariables false
set_option linter.unusedSimpArgs false
set_option maxRecDepth 20000
attribute [local go_sem] Oper.semAt_some

theorem alloc_at (W : World) (o : Obj) (E : Nat) (h : W.heap.size = E) : (W.alloc o).heap[E]? = some o := by subst h; exact World.alloc_heap_new _ _
theorem own_ne {E N n c : Nat} (h : E ≠ N) : (Value.slice (some ⟨E, 0, none⟩) n c).ownBlock ≠ some N := fun e => h (by simpa [Value.ownBlock] using e)
/-- an empty row -/
theorem own0 {W : World} {base E : Nat} (hE : W.heap[E]? = some (.cells #[] 3 (0, 0))) (hb : base ≤ E) : W.ownsRow base 3 1 (.slice (some ⟨E, 0, none⟩) 0 0) ([] : List Int).length (intVs []) :=
  ⟨by simp [intVs], .inr ⟨E, 0, #[], rfl, hb, hE, by simp, by simp [maxLen], by simp, by simp [intVs]⟩⟩
section
variable {w : World} {ops : Array Oper} {o : Oper} {a : Act} {K : Act → World → Prop} {Q : Exit → Act → World → Prop} {E : Prop}
/-- an append of a list, at a step of a region that draws -/
theorem step_app_ints (w0 : World) (hgd : o.guard = none) (s x : Operand) (ho : o.op = .call { callee := .builtin .append, args := #[s, x], argTypes := #[22, 22] }) (hty : o.type = 22) (v : Value) (l m : List Int) (n b off cap : Nat)
    (hs : a.eval s = v) (hx : a.eval x = .slice (some ⟨b, off, none⟩) n cap) (hn : m.length = n) (hown : w.ownsRow w0.heap.size 3 1 v l.length (intVs l)) (hm : SlI w (some ⟨b, off, none⟩) cap m) (hl : l.length + n ≤ 100000) (hx0 : Ext w0 w)
    (h : ∀ v' w', w'.ownsRow w0.heap.size 3 1 v' (l ++ m).length (intVs (l ++ m)) → Ext w0 w' → w.grownBy w' v.ownBlock → (v'.ownBlock = v.ownBlock ∨ v'.ownBlock = some w.heap.size) → K (a.put o.dst v') w') : if Region.wanted o (yielded ops a.tmps) = true then Oper.wp Try.prog o a w K Q else E := by
  rw [if_pos (by simp [Region.wanted, hgd])]
  subst hn
  obtain ⟨v', w', hr, h1, h2, h3⟩ := append_ints w w0.heap.size v l m b off cap hown hm hl hx0.size
  rw [← hty] at hr
  exact wp_append_at s x 22 ho v _ hs hx (by rw [← hty]; exact hr) (h v' w' h1 (Below.grown hx0 h2 hx0.size (fun j hj => (hown.lt j hj).1)) h2 h3)
end
/-- an append of a list to a new empty row, at a step of a region that draws -/
theorem step_app_fresh {w : World} {ops : Array Oper} {o : Oper} {a : Act} {K : Act → World → Prop} {Q : Exit → Act → World → Prop} {F : Prop} (w0 : World) (hgd : o.guard = none) (s x : Operand) (ho : o.op = .call { callee := .builtin .append, args := #[s, x], argTypes := #[22, 22] }) (hty : o.type = 22) (E : Nat) (m : List Int) (n b off cap : Nat)
    (hs : a.eval s = .slice (some ⟨E, 0, none⟩) 0 0) (hx : a.eval x = .slice (some ⟨b, off, none⟩) n cap) (hn : m.length = n) (hE : w.heap[E]? = some (.cells #[] 3 (0, 0))) (hbE : w0.heap.size ≤ E) (hm : SlI w (some ⟨b, off, none⟩) cap m) (hl : n ≤ 100000) (hx0 : Ext w0 w)
    (h : ∀ v' w', w'.ownsRow w0.heap.size 3 1 v' m.length (intVs m) → Ext w0 w' → w.grownBy w' (some E) → (v'.ownBlock = some E ∨ v'.ownBlock = some w.heap.size) → K (a.put o.dst v') w') : if Region.wanted o (yielded ops a.tmps) = true then Oper.wp Try.prog o a w K Q else F :=
  step_app_ints w0 hgd s x ho hty _ [] m n b off cap hs hx hn (own0 hE hbE) hm (by simp only [List.length_nil]; omega) hx0 (fun v' w' h1 h2 h3 h4 => h v' w' (by simpa using h1) h2 h3 h4)
theorem grown_heap {w w' : World} {row : Option Nat} (h : w.grownBy w' row) {N : Nat} {o : Obj} (hN : w.heap[N]? = some o) (hne : row ≠ some N) : w'.heap[N]? = some o :=
  (h.block N (Array.getElem?_eq_some_iff.1 hN).1 (fun e => hne e.symm)).trans hN
theorem TightB.grown {w w' : World} {row : Option Nat} {base : Nat} {r : Row} (h : TightB w base r) (hg : w.grownBy w' row) (hne : row ≠ some r.h) : TightB w' base r :=
  h.same (hg.block _ h.inB.lt (fun e => hne e.symm))
theorem SlI.block1 {W : World} {g : Nat} {k : Int} (h : W.heap[g]? = some (.cells #[.int .i64 k] 3 (0, 0))) : SlI W (some ⟨g, 0, none⟩) 1 [k] :=
  ⟨fun i hi => ⟨g, 0, rfl, by obtain rfl : i = 0 := by simpa using hi
                              exact one_at h⟩, by simp, by omega⟩
theorem SlI.takes {W : World} {P : Option Addr} {c : Nat} {l : List Int} (h : SlI W P c l) (n : Nat) (hn : n ≤ l.length) : SlI W P c (l.take n) := by
  have hl : (l.take n).length = n := by rw [List.length_take]; omega
  have := h.le
  refine ⟨fun i hi => ?_, by omega, h.cap⟩
  obtain ⟨b, off, e, hc⟩ := h.at_ i (by omega)
  refine ⟨b, off, e, ?_⟩
  rw [hc]
  simp [nthI, List.getD_eq_getElem?_getD, show i < n by omega]
theorem SlI.drops {W : World} {b off c : Nat} {l : List Int} (h : SlI W (some ⟨b, off, none⟩) c l) (n : Nat) (hn : n ≤ l.length) : SlI W (some ⟨b, off + n, none⟩) (c - n) (l.drop n) := by
  have hl : (l.drop n).length = l.length - n := List.length_drop
  have := h.le
  have := h.cap
  refine ⟨fun i hi => ?_, by omega, by omega⟩
  obtain ⟨b', off', e, hc⟩ := h.at_ (n + i) (by omega)
  simp only [Option.some.injEq, Addr.mk.injEq, and_true] at e
  obtain ⟨rfl, rfl⟩ := e
  refine ⟨_, _, rfl, ?_⟩
  rw [Nat.add_assoc, hc]
  simp [nthI, List.getD_eq_getElem?_getD, List.getElem?_drop]
/-- a slice from p on, wherever it lies -/
theorem slice_from (b off len c p : Nat) (hp : p ≤ len) (hc : len ≤ c) (T : TypeId) (hT : Try.prog.underlying T = some (.slice (Try.prog.elem T))) (hs : (Try.prog.info? (Try.prog.elem T)).map (·.size) = some 1) :
    ∀ w, (Instr.slice T (.slice (some ⟨b, off, none⟩) len c) (some (.int .i64 p)) none none).run Try.prog w = .ok (.slice (some ⟨b, if c = p then off else off + p, none⟩) (len - p) (c - p)) w := by
  intro w
  rw [run_slice_l (w := w) T (some ⟨b, off, none⟩) len c hT .i64 p (by omega) (by omega)]
  cases hq : Try.prog.info? (Try.prog.elem T) with
  | none => simp [hq] at hs
  | some i =>
    have hi : i.size = 1 := by simpa [hq] using hs
    simp [sizeOf, typeInfo, hq, hi, sliced, Result.andThen]
    by_cases h : c = p
    · simp [h]
    · simp [h, Go.WideShapes.add_plain]
theorem SlI.from {W : World} {b off c : Nat} {l : List Int} (h : SlI W (some ⟨b, off, none⟩) c l) (p : Nat) (hp : p ≤ l.length) : SlI W (some ⟨b, if c = p then off else off + p, none⟩) (c - p) (l.drop p) := by
  by_cases hc : c = p
  · rw [if_pos hc]
    have h1 := h.le
    have h2 : l.drop p = [] := List.drop_eq_nil_iff.2 (by omega)
    rw [h2]
    exact ⟨fun i hi => by simp at hi, by simp, by omega⟩
  · rw [if_neg hc]; exact h.drops p hp
theorem SlA.from {w : World} {b off cap : Nat} {Q : Nat → Option Addr} {C : Nat → Nat} {LL : List (List Int)} (h : SlA w (some ⟨b, off, none⟩) cap Q C LL) (p : Nat) (hp : p ≤ LL.length) : SlA w (some ⟨b, if cap = p then off else off + p, none⟩) (cap - p) (fun i => Q (p + i)) (fun i => C (p + i)) (LL.drop p) := by
  by_cases hc : cap = p
  · rw [if_pos hc]
    have h1 := h.le
    have h2 : LL.drop p = [] := List.drop_eq_nil_iff.2 (by omega)
    rw [h2]
    exact SlA.empty _ _ (by omega) _ _
  · rw [if_neg hc]; exact h.drop p hp
/-- append of nothing -/
theorem run_app_nil (w : World) (base : Nat) (t ty e : TypeId) (ht : Try.prog.underlying t = some (.slice e)) (hs : (Try.prog.info? e).map (·.size) = some 1)
    (v : Value) (n : Nat) (xs : List Value) (hown : w.ownsRow base e 1 v n xs) : (Builtin.append_ #[t, t] ty #[v, .slice none 0 0]).run Try.prog w = .ok v w := by
  cases hq : Try.prog.info? e with
  | none => simp [hq] at hs
  | some i =>
    rcases hown.2 with ⟨rfl, _⟩ | ⟨g, cap, cur, rfl, _, _, hnc, _⟩
    · simp [Builtin.append_, run_underlying ht, sizeOf, typeInfo, hq, Builtin.lenOf, Builtin.firstCells]
    · simp [Builtin.append_, run_underlying ht, sizeOf, typeInfo, hq, Builtin.lenOf, Builtin.firstCells, hnc, storeCells]
section
variable {w : World} {base : Nat} {v : Value} {A B : List Row}
/-- blocks put behind an array -/
theorem OwnA.app (h : OwnA w base v A) (b off c2 : Nat) (hsrc : ∀ j u, (B.map Row.v)[j]? = some u → w.cell? ((⟨b, off, none⟩ : Addr).add j) = some u) (hB : ∀ x ∈ B, InB w base x) (hnd : (B.map Row.h).Nodup)
    (hAB : ∀ x ∈ A, ∀ y ∈ B, x.h ≠ y.h) (hv : ∀ y ∈ B, v.ownBlock ≠ some y.h) (hn : A.length + B.length ≤ 100000) (hb : base ≤ w.heap.size) :
    ∃ v' w', (Builtin.append_ #[24, 24] 24 #[v, .slice (some ⟨b, off, none⟩) B.length c2]).run Try.prog w = .ok v' w' ∧ OwnA w' base v' (A ++ B) ∧ w.grownBy w' v.ownBlock ∧ (v'.ownBlock = v.ownBlock ∨ v'.ownBlock = some w.heap.size) := by
  obtain ⟨i0, hi, hz0, hz1, hz2⟩ := info_parts infoJ
  obtain ⟨v', w', r1, r2, r3, _, r5⟩ := run_append_own_at (P := Try.prog) w base 24 24 22 i0 _ 1 24 Try.underlying24 hi hz0 hz1 hz2 rfl (by decide) v A.length (A.map Row.v) h.out ⟨b, off, none⟩ B.length c2 (B.map Row.v) (by simp) hsrc (rowVs_one B) (by simp only [maxLen]; omega) (by omega) hb
  refine ⟨v', w', r1, ⟨?_, fun x hx => ?_, ?_, fun x hx e => ?_⟩, r3, r5⟩
  · rw [List.length_append, List.map_append]; exact r2
  · rcases List.mem_append.1 hx with hx | hx
    · exact (h.row x hx).same (r3.block _ (h.lt hx) (fun e => h.far x hx e.symm))
    · exact (hB x hx).same (r3.block _ (hB x hx).lt (fun e => hv x hx e.symm))
  · rw [List.map_append, List.nodup_append]
    refine ⟨h.apart, hnd, fun x hx y hy => ?_⟩
    simp only [List.mem_map] at hx hy
    obtain ⟨x, hx, rfl⟩ := hx
    obtain ⟨y, hy, rfl⟩ := hy
    exact hAB x hx y hy
  · have hxl : x.h < w.heap.size ∧ v.ownBlock ≠ some x.h := by
      rcases List.mem_append.1 hx with hx | hx
      · exact ⟨h.lt hx, h.far x hx⟩
      · exact ⟨(hB x hx).lt, hv x hx⟩
    rcases r5 with e5 | e5
    · exact hxl.2 (e5 ▸ e)
    · rw [e5] at e
      injection e with e
      omega
/-- an array put behind an array -/
theorem OwnA.join {base2 : Nat} {v2 : Value} (h : OwnA w base v A) (h2 : OwnA w base2 v2 B) (hA : ∀ x ∈ A, x.h < base2) (hv : ∀ k, v.ownBlock = some k → k < base2) (hn : A.length + B.length ≤ 100000) (hbb : base ≤ base2) (hb : base ≤ w.heap.size) :
    ∃ v' w', (Builtin.append_ #[24, 24] 24 #[v, v2]).run Try.prog w = .ok v' w' ∧ OwnA w' base v' (A ++ B) ∧ w.grownBy w' v.ownBlock ∧ (v'.ownBlock = v.ownBlock ∨ v'.ownBlock = some w.heap.size) := by
  rcases h2.cases with ⟨rfl, rfl⟩ | ⟨g, cap, rfl, hg, hc, _⟩
  · exact ⟨v, w, run_app_nil w base _ _ _ Try.underlying24 sizeJ v _ _ h.out, by rw [List.append_nil]; exact h, World.grownBy.refl w _, .inl rfl⟩
  · refine h.app g 0 cap (fun j u hj => ?_) (fun x hx => (h2.row x hx).down hbb) h2.apart (fun x hx y hy e => ?_) (fun y hy e => ?_) hn hb
    · have hjl := (List.getElem?_eq_some_iff.1 hj).1
      rw [Go.WideShapes.add_plain, Nat.zero_add]
      have := h2.out.cellAt j (by simpa using hjl)
      rw [this, hj]
    · have h3 := hA x hx
      have h4 := h2.ge hy
      omega
    · have h3 := hv _ e
      have h4 := h2.ge hy
      omega
end
/-- one block put behind, from a new cell -/
theorem app_one {w W : World} {v : Value} {A : List Row} {r : Row} (hx : Ext w W) (h : OwnA W w.heap.size v A) (hr : InB W w.heap.size r) (hne : ∀ x ∈ A, x.h ≠ r.h) (hv : v.ownBlock ≠ some r.h) (hn : A.length ≤ 10000) :
    ∃ v' W', (Builtin.append_ #[24, 24] 24 #[v, .slice (some ⟨W.heap.size, 0, none⟩) 1 1]).run Try.prog (W.alloc (.cells #[.slice (some ⟨r.h, 0, none⟩) r.l.length r.c] 22)) = .ok v' W' ∧ OwnA W' w.heap.size v' (A ++ [r]) ∧ Ext w W' := by
  have hx1 : Ext W (W.alloc (.cells #[.slice (some ⟨r.h, 0, none⟩) r.l.length r.c] 22)) := (Ext.refl W).alloc _
  have ho := h.ext hx1
  have hblk := ho.out.lt
  obtain ⟨v', w', h1, h2, h3, h4⟩ := ho.app (B := [r]) W.heap.size 0 1 (fun j u hj => by
    have hjl := (List.getElem?_eq_some_iff.1 hj).1
    obtain rfl : j = 0 := by simpa using hjl
    simp only [List.map_cons, List.map_nil, List.getElem?_cons_zero, Option.some.injEq] at hj
    subst hj
    exact one_at (World.alloc_heap_new W _)) (fun x hx' => by simp at hx'; subst hx'; exact hr.same (hx1.block hr.lt)) (by simp) (fun x hx' y hy => by simp at hy; subst hy; exact hne x hx') (fun y hy => by simp at hy; subst hy; exact hv) (by simp; omega) (hx.trans hx1).size
  exact ⟨v', w', h1, h2, Below.grown (hx.trans hx1) h3 (hx.trans hx1).size (fun j hj => (hblk j hj).1)⟩
/-- an array put behind an array -/
theorem app_join {w W : World} {base2 : Nat} {v v2 : Value} {A B : List Row} (hx : Ext w W) (h : OwnA W w.heap.size v A) (h2 : OwnA W base2 v2 B) (hA : ∀ x ∈ A, x.h < base2) (hv : ∀ k, v.ownBlock = some k → k < base2) (hn : A.length + B.length ≤ 100000) (hbb : w.heap.size ≤ base2) :
    ∃ v' W', (Builtin.append_ #[24, 24] 24 #[v, v2]).run Try.prog W = .ok v' W' ∧ OwnA W' w.heap.size v' (A ++ B) ∧ Ext w W' := by
  have hblk := h.out.lt
  obtain ⟨v', w', h1, h2, h3, h4⟩ := h.join h2 hA hv hn hbb hx.size
  exact ⟨v', w', h1, h2, Below.grown hx h3 hx.size (fun j hj => (hblk j hj).1)⟩
/-- two blocks put behind, from new cells -/
theorem app_two {w W : World} {v : Value} {A : List Row} {r1 r2 : Row} (hx : Ext w W) (h : OwnA W w.heap.size v A) (hr1 : InB W w.heap.size r1) (hr2 : InB W w.heap.size r2) (h12 : r1.h ≠ r2.h) (hne : ∀ x ∈ A, x.h ≠ r1.h ∧ x.h ≠ r2.h) (hv1 : v.ownBlock ≠ some r1.h) (hv2 : v.ownBlock ≠ some r2.h) (hn : A.length ≤ 10000) :
    ∃ v' W', (Builtin.append_ #[24, 24] 24 #[v, .slice (some ⟨W.heap.size, 0, none⟩) 2 2]).run Try.prog (W.alloc (.cells #[.slice (some ⟨r1.h, 0, none⟩) r1.l.length r1.c, .slice (some ⟨r2.h, 0, none⟩) r2.l.length r2.c] 22)) = .ok v' W' ∧ OwnA W' w.heap.size v' (A ++ [r1, r2]) ∧ Ext w W' := by
  have hx1 : Ext W (W.alloc (.cells #[.slice (some ⟨r1.h, 0, none⟩) r1.l.length r1.c, .slice (some ⟨r2.h, 0, none⟩) r2.l.length r2.c] 22)) := (Ext.refl W).alloc _
  have ho := h.ext hx1
  have hblk := ho.out.lt
  obtain ⟨v', w', h1, h2, h3, h4⟩ := ho.app (B := [r1, r2]) W.heap.size 0 2 (fun j u hj => by
    have hjl := (List.getElem?_eq_some_iff.1 hj).1
    have hb : (W.alloc (.cells #[.slice (some ⟨r1.h, 0, none⟩) r1.l.length r1.c, .slice (some ⟨r2.h, 0, none⟩) r2.l.length r2.c] 22)).heap[W.heap.size]? = _ := World.alloc_heap_new W (.cells #[.slice (some ⟨r1.h, 0, none⟩) r1.l.length r1.c, .slice (some ⟨r2.h, 0, none⟩) r2.l.length r2.c] 22)
    rw [Go.WideShapes.add_plain, Nat.zero_add]
    match j, hjl with
    | 0, _ => unfold World.cell?; simp only [hb]; exact hj
    | 1, _ => unfold World.cell?; simp only [hb]; exact hj) (fun x hx' => by
      simp at hx'
      rcases hx' with rfl | rfl
      · exact hr1.same (hx1.block hr1.lt)
      · exact hr2.same (hx1.block hr2.lt)) (by simpa using h12) (fun x hx' y hy => by
      simp at hy
      rcases hy with rfl | rfl
      · exact (hne x hx').1
      · exact (hne x hx').2) (fun y hy => by
      simp at hy
      rcases hy with rfl | rfl
      · exact hv1
      · exact hv2) (by simp; omega) (hx.trans hx1).size
  exact ⟨v', w', h1, h2, Below.grown (hx.trans hx1) h3 (hx.trans hx1).size (fun j hj => (hblk j hj).1)⟩
theorem step_app_run {w : World} {ops : Array Oper} {o : Oper} {a : Act} {K : Act → World → Prop} {Q : Exit → Act → World → Prop} {E : Prop} (hgd : o.guard = none) (s x : Operand) (t : TypeId) (ho : o.op = .call { callee := .builtin .append, args := #[s, x], argTypes := #[t, t] }) (hty : o.type = t)
    {vs vx : Value} (hs : a.eval s = vs) (hx : a.eval x = vx) {v' : Value} {w' : World} (hr : (Builtin.append_ #[t, t] t #[vs, vx]).run Try.prog w = .ok v' w') (h : K (a.put o.dst v') w') : if Region.wanted o (yielded ops a.tmps) = true then Oper.wp Try.prog o a w K Q else E := by
  rw [if_pos (by simp [Region.wanted, hgd])]
  exact wp_append_at s x t ho _ _ hs hx (by rw [hty]; exact hr) h
/-- how the reference's functions that give blocks end -/
def ArrPost (RL : List (List Int)) (w : World) (e : Ending) (w' : World) : Prop := ∃ v RR, e = .returned v ∧ OwnA w' w.heap.size v RR ∧ RR.map Row.l = RL ∧ Ext w w'

set_option maxHeartbeats 4000000 in
theorem rput_at (b : Int) (hb : roomB b = true) (P : Option Addr) (cap : Nat) (Q : Nat → Option Addr) (C : Nat → Nat) (LL : List (List Int)) (index : Nat) (k : Int) (w : World) (h : SlA w P cap Q C LL) (hblk : BlocksOk b LL) (hi : index ≤ LL.flatten.length) (ht : LL.flatten.length ≤ 600) (hLL : LL ≠ []) :
    Calls Try.prog 45 #[.int .i64 b, .slice P LL.length cap, .int .i64 index, .int .i64 k] w (ArrPost (insF b LL index k) w) := by
  have hne : ∀ l ∈ LL, l ≠ [] := fun l hl => (hblk l hl).1
  have hlen := h.len
  have hll := len_le_flat LL hne
  have hb2 := roomB_t hb
  obtain ⟨q, p, hS⟩ := spot_ex LL hLL index hi
  have hsp := spotF_of hS hi hne
  have hsq := spotQ_spot hS
  have hR := rspot_any P cap Q C LL index w h (by omega) (by omega) (by omega)
  rw [hsq] at hR
  simp only at hR
  obtain ⟨hq, hqp, hp⟩ := hS
  have hp : p ≤ (nthA LL q).length := by omega
  have hqp : lenT LL q + p = index := hqp
  obtain ⟨ba, offa, rfl, hcq⟩ := h.at_ q hq
  have hrow := h.row q hq
  obtain ⟨b2, off2, hQ⟩ := slI_some hrow (hne _ (nthA_mem hq))
  rw [hQ] at hrow hcq
  have hbq := (hblk _ (nthA_mem hq)).2
  have hrl := hrow.le
  have hrc := hrow.cap
  have d1 : ((LL.length : Int) == 0) = false := by simp; omega
  have d2 : IntKind.i64.wrap ((index : Int) - (lenT LL q : Nat)) = (p : Int) := by rw [IntWalk.i64_in _ ⟨by omega, by omega⟩]; omega
  have s1 := slice_from b2 off2 (nthA LL q).length (C q) p hp hrl 22 (by kernel_rfl) (by kernel_rfl)
  have i1 := hrow.takes p hp
  have i2 := hrow.from p hp
  have e1 : ((nthA LL q).take p).length = p := by rw [List.length_take]; omega
  have e2 : ((nthA LL q).drop p).length = (nthA LL q).length - p := List.length_drop
  have hins : insF b LL index k = LL.take q ++ splitF b (insI (nthA LL q) p k) ++ LL.drop (q + 1) := by rw [insF_ne hLL, hsp]; rfl
  generalize hoff : (if C q = p then off2 else off2 + p) = off3 at *
  clear hoff hsp hsq
  generalize nthA LL q = r at *
  have g1 : (q : Int) < LL.length := by omega
  have g2 : (p : Int) ≤ r.length := by omega
  have g3 : (p : Int) ≤ (C q : Int) := by omega
  have hcq' := World.new_ne w _ hcq
  have HQ := Lib.hid hQ
  have Hins := Lib.hid hins
  have Hqp := Lib.hid hqp
  have E1 := Lib.hid e1
  have E2 := Lib.hid e2
  clear hQ hins hqp e1 e2
  go_enter Try.func45, Try.ntmps45
  go_wp2_with (go_at_call 50; refine hR.mono ?_; rintro e w1 ⟨rfl, rfl⟩)
  go_region_held3 (fun w' => w'.cell? ⟨ba, offa + q, none⟩ = some (.slice (some ⟨b2, off2, none⟩) r.length (C q))) (first | go_keep | (refine Ext.cell ?_ hcq; (repeat (first | exact Ext.refl _ | assumption | refine Ext.drew ?_ | refine Ext.alloc ?_ _))))
    (first
      | (refine step_app_fresh w ?_ (.tmp 30) (.tmp 36) ?_ ?_ ?_ (r.take p) p b2 off2 (C q) ?_ ?_ E1.out ?_ ?_ (i1.ext ?_) ?_ ?_ ?_
         · rfl
         · rfl
         · rfl
         rotate_left 1
         · rfl
         · rfl
         · (first | (refine alloc_at _ _ _ ?_; (simp; done)) | (refine ((Ext.refl _).alloc _).heap (alloc_at _ _ _ ?_); (simp; done)))
         · (simp; done)
         · (repeat (first | exact Ext.refl _ | assumption | refine Ext.drew ?_ | refine Ext.alloc ?_ _))
         · omega
         · (repeat (first | exact Ext.refl _ | assumption | refine Ext.drew ?_ | refine Ext.alloc ?_ _))
         intro v2 W2 ho2 hx2 hk2 hb2)
      | (refine step_app_ints w ?_ (.tmp 37) (.tmp 39) ?_ ?_ ?_ (r.take p) [k] 1 ?_ 0 1 ?_ ?_ rfl ?_ ?_ ?_ ?_ ?_
         · rfl
         · rfl
         · rfl
         rotate_left 2
         · rfl
         · rfl
         · first | exact ho2 | exact rowExt ho2 ((Ext.refl _).alloc _)
         · refine SlI.block1 ?_; first | (refine alloc_at _ _ _ ?_; (simp; done)) | (refine grown_heap hk2 ?_ ?_ <;> first | (first | (refine alloc_at _ _ _ ?_; (simp; done)) | (refine ((Ext.refl _).alloc _).heap (alloc_at _ _ _ ?_); (simp; done))) | (intro e; injection e; omega))
         · rw [E1.out]; omega
         · (repeat (first | exact Ext.refl _ | assumption | refine Ext.drew ?_ | refine Ext.alloc ?_ _))
         intro v3 W3 ho3 hx3 hk3 hb3
         clear hk2 hk3 hb2 hb3)
      | (refine step_app_ints w ?_ (.tmp 40) (.tmp 46) ?_ ?_ ?_ (r.take p ++ [k]) (r.drop p) (r.length - p) b2 off3 (C q - p) ?_ ?_ E2.out ?_ (i2.ext ?_) ?_ ?_ ?_
         · rfl
         · rfl
         · rfl
         rotate_left 1
         · rfl
         · rfl
         · exact ho3
         · (repeat (first | exact Ext.refl _ | assumption | refine Ext.drew ?_ | refine Ext.alloc ?_ _))
         · rw [List.length_append, E1.out]; simp only [List.length_cons, List.length_nil]; omega
         · (repeat (first | exact Ext.refl _ | assumption | refine Ext.drew ?_ | refine Ext.alloc ?_ _))
         intro v4 W4 ho4 hx4 hk4 hb4
         clear hk4 hb4)
      | fail)
  all_goals
    obtain ⟨L, hL⟩ : ∃ L, insI r p k = L := ⟨_, rfl⟩
    have hLl : L.length = r.length + 1 := by rw [← hL]; exact insI_length hp
    have hL' : r.take p ++ [k] ++ r.drop p = L := by rw [← hL]; simp [insI]
    rw [hL'] at ho4
    obtain ⟨g, c, rfl, hT4⟩ := TightB.of ho4 (fun e => by rw [e] at hLl; simp at hLl)
    have HL := Lib.hid hL
    have HLl := Lib.hid hLl
    clear hL hL' ho4 ho3 ho2 hx2 hx3
    have hl1 : (LL.take q).length = q := by rw [List.length_take]; omega
    have hl2 : (LL.drop (q + 1)).length = LL.length - (q + 1) := List.length_drop
    have hf1 : (LL.take q).flatten.length ≤ 1000 := by omega
    have hf2 : (LL.drop (q + 1)).flatten.length ≤ 1000 := by
      have h1 := congrArg (fun l => (List.flatten l).length) (List.take_append_drop (q + 1) LL)
      simp only [List.flatten_append, List.length_append] at h1
      omega
    have hc1 : ∀ W, Ext w W → Calls Try.prog 63 #[.slice (some ⟨ba, offa, none⟩) q cap] W fun e w' => ∃ v RR, e = .returned v ∧ OwnA w' W.heap.size v RR ∧ RR.map Row.l = LL.take q ∧ Ext W w' := fun W hW => by
      have := copied_any (some ⟨ba, offa, none⟩) cap Q C (LL.take q) W ((h.take q).ext hW) (fun l hl => hne l (List.mem_of_mem_take hl)) hf1
      rw [hl1] at this
      exact this
    have hc2 : ∃ off9, (∀ w, (Instr.slice 24 (.slice (some ⟨ba, offa, none⟩) LL.length cap) (some (.int .i64 ((q : Int) + 1))) none none).run Try.prog w = .ok (.slice (some ⟨ba, off9, none⟩) (LL.length - (q + 1)) (cap - (q + 1))) w) ∧
        ∀ W, Ext w W → Calls Try.prog 63 #[.slice (some ⟨ba, off9, none⟩) (LL.length - (q + 1)) (cap - (q + 1))] W fun e w' => ∃ v RR, e = .returned v ∧ OwnA w' W.heap.size v RR ∧ RR.map Row.l = LL.drop (q + 1) ∧ Ext W w' := by
      refine ⟨_, slice_from ba offa LL.length cap (q + 1) (by omega) h.le 24 (by kernel_rfl) (by kernel_rfl), fun W hW => ?_⟩
      have := copied_any _ _ _ _ (LL.drop (q + 1)) W ((h.from (q + 1) (by omega)).ext hW) (fun l hl => hne l (List.mem_of_mem_drop hl)) hf2
      rw [hl2] at this
      exact this
    obtain ⟨off9, hs9, hc2⟩ := hc2
    have w9 : IntKind.i64.wrap ((q : Int) + 1) = (q : Int) + 1 := IntWalk.i64_in _ ⟨by omega, by omega⟩
    have hgw : g < W4.heap.size := hT4.inB.lt
    have hLa : L.length ≤ r.length + 1 := by omega
    have hLb : r.length + 1 ≤ L.length := by omega
    have Hl1 := Lib.hid hl1
    have Hl2 := Lib.hid hl2
    clear hl1 hl2
    have hlq : (q : Int) ≤ cap := by have := h.le; omega
    have hcap := h.cap
    have hn1 : ∀ {RR : List Row} {X : List (List Int)}, RR.map Row.l = X → RR.length = X.length := fun h => by rw [← h, List.length_map]
    by_cases hle : ((r.length : Int) + 1) ≤ b
    · have hsp : splitF b L = [L] := by unfold splitF; rw [if_pos (by rw [hLl]; omega)]
      have c5 : ¬ b < (L.length : Int) := by omega
      have Hsp := Lib.hid hsp
      clear hsp hle hLl
      go_wp2_with (first
        | (go_at_call 63; (with_reducible refine (hc1 _ (by exact hx4)).mono ?_); rintro e W5 ⟨v5, R5, rfl, hO5, hm5, hx5⟩
           have hl5 := hn1 hm5
           rw [Hl1.out] at hl5
           have hx45 := hx4.trans hx5
           have hO5' := hO5.down hx4.size
           have hT5 := hT4.ext hx5
           obtain ⟨v6, W6, hrun6, hO6, hx6⟩ := app_one hx45 hO5' hT5.inB (fun x hx => by have := hO5.ge hx; simp only; omega) (fun e => by have := (hO5.out.lt _ e).1; simp only at this; omega) (by omega)
           have hb6 := hO6.out.lt
           have hl6 : (R5 ++ [(⟨g, c, L⟩ : Row)]).length ≤ q + 1 := by simp [hl5]
           have HM5 := Lib.hid hm5
           clear hm5 hl5
           simp only at hrun6)
        | (at_builtin; refine Lib.wpList_append_run _ rfl _ _ _ _ rfl _ _ rfl rfl _ _ hrun6 ?_)
        | (go_at_call 63; (with_reducible refine (hc2 _ (by exact hx6)).mono ?_); rintro e W7 ⟨v7, R7, rfl, hO7, hm7, hx7⟩
           have hl7 := hn1 hm7
           rw [Hl2.out] at hl7
           have HM7 := Lib.hid hm7
           have hl7 := Nat.le_of_eq hl7
           have hO6' := hO6.ext hx7
           obtain ⟨v8, W8, hrun8, hO8, hx8⟩ := app_join (hx6.trans hx7) hO6' hO7 (fun x hx => hO6.lt hx) (fun j hj => (hb6 j hj).2) (by omega) hx6.size
           clear hm7)
        | (at_builtin; refine Lib.wpList_append_run _ rfl _ _ _ _ rfl _ _ rfl rfl _ _ hrun8 ?_))
      go_ret
      refine ⟨v8, R5 ++ [⟨g, c, L⟩] ++ R7, rfl, hO8, ?_, hx8⟩
      rw [List.map_append, List.map_append, HM5.out, HM7.out, Hins.out, HL.out, Hsp.out]
      rfl
    · obtain ⟨n0, hn0⟩ : ∃ n0 : Nat, (b + 2) / 2 = (n0 : Int) := ⟨((b + 2) / 2).toNat, by omega⟩
      have hsp : splitF b L = [L.take n0, L.drop n0] := by unfold splitF; rw [if_neg (by rw [hLl]; omega), hn0]; rfl
      have c5 : b < (L.length : Int) := by omega
      have c6 : IntKind.i64.wrap (b + 2) = b + 2 := IntWalk.i64_in _ ⟨by omega, by omega⟩
      have n1 : 0 < n0 := by omega
      have n2 : n0 < L.length := by omega
      have hLc : L.length ≤ c := by obtain ⟨_, cur, _, h1, _⟩ := hT4.inB; exact h1
      have hcm : c ≤ 9223372036854775807 := by obtain ⟨_, cur, _, _, _, h1, _⟩ := hT4.inB; exact h1
      have n3 : (n0 : Int) ≤ L.length := by omega
      have n4 : (n0 : Int) ≤ c := by omega
      have sx := slice_from g 0 L.length c n0 (by omega) hLc 22 (by kernel_rfl) (by kernel_rfl)
      have j1 := hT4.inB.slI.takes n0 (by simp only; omega)
      have j2 := hT4.inB.slI.from n0 (by simp only; omega)
      have m1 : (L.take n0).length = n0 := by rw [List.length_take]; omega
      have m2 : (L.drop n0).length = L.length - n0 := List.length_drop
      simp only at j1 j2
      generalize hoff : (if c = n0 then 0 else 0 + n0) = offx at *
      clear hoff
      have Hsp := Lib.hid hsp
      have M1 := Lib.hid m1
      have M2 := Lib.hid m2
      have Hn0 := Lib.hid hn0
      clear hsp hle hLl m1 m2
      go_wp2_with (first
        | (go_at_call 63; (with_reducible refine (hc1 _ (by exact hx4)).mono ?_); rintro e W5 ⟨v5, R5, rfl, hO5, hm5, hx5⟩))
      have hl5 := hn1 hm5
      rw [Hl1.out] at hl5
      have HM5 := Lib.hid hm5
      have hx45 := hx4.trans hx5
      have hO5' := hO5.down hx4.size
      clear hm5
      have hl5 := Nat.le_of_eq hl5
      replace j1 := j1.ext hx5
      replace j2 := j2.ext hx5
      have hT5g : g < W5.heap.size := by have := hx5.size; omega
      go_region_held3 (fun w' => True) (trivial)
        (first
          | (refine step_app_fresh W5 ?_ (.tmp 60) (.tmp 63) ?_ ?_ ?_ (L.take n0) n0 g 0 c ?_ ?_ M1.out ?_ ?_ (j1.ext ?_) ?_ ?_ ?_
             · rfl
             · rfl
             · rfl
             rotate_left 1
             · rfl
             · rfl
             · (first | (refine alloc_at _ _ _ ?_; (simp; done)) | (refine ((Ext.refl _).alloc _).heap (alloc_at _ _ _ ?_); (simp; done)))
             · (simp; done)
             · (repeat (first | exact Ext.refl _ | assumption | refine Ext.drew ?_ | refine Ext.alloc ?_ _))
             · omega
             · (repeat (first | exact Ext.refl _ | assumption | refine Ext.drew ?_ | refine Ext.alloc ?_ _))
             intro vx Wx hox hxx hkx hbx
             obtain ⟨g1, c1, rfl, hTx⟩ := TightB.of hox (fun e => by have := M1.out; rw [e] at this; simp at this; omega)
             rw [M1.out]
             simp [Value.ownBlock] at hbx
             have Hbx := Lib.hid hbx
             clear hbx hox
             have hgx : g1 < Wx.heap.size := hTx.inB.lt)
          | (refine step_app_fresh W5 ?_ (.tmp 65) (.tmp 68) ?_ ?_ ?_ (L.drop n0) (L.length - n0) g offx (c - n0) ?_ ?_ M2.out ?_ ?_ (j2.ext ?_) ?_ ?_ ?_
             · rfl
             · rfl
             · rfl
             rotate_left 1
             · rfl
             · rfl
             · first | (first | (refine alloc_at _ _ _ ?_; (simp; done)) | (refine ((Ext.refl _).alloc _).heap (alloc_at _ _ _ ?_); (simp; done))) | (refine grown_heap hkx ?_ ?_ <;> first | (first | (refine alloc_at _ _ _ ?_; (simp; done)) | (refine ((Ext.refl _).alloc _).heap (alloc_at _ _ _ ?_); (simp; done))) | (intro e; injection e; omega))
             · first | (simp; done) | exact hxx.size
             · (repeat (first | exact Ext.refl _ | assumption | refine Ext.drew ?_ | refine Ext.alloc ?_ _))
             · omega
             · (repeat (first | exact Ext.refl _ | assumption | refine Ext.drew ?_ | refine Ext.alloc ?_ _))
             intro vy Wy hoy hxy hky hby
             obtain ⟨g2, c2, rfl, hTy⟩ := TightB.of hoy (fun e => by have := M2.out; rw [e] at this; simp at this; omega)
             rw [M2.out]
             have hTx' : TightB Wy W5.heap.size ⟨g1, c1, L.take n0⟩ := by
               have hbx := Hbx.out
               first
                 | (refine TightB.grown hTx hky ?_; show some _ ≠ some g1; intro e; injection e; omega)
                 | (refine TightB.grown (hTx.ext ((Ext.refl _).alloc _)) hky ?_; show some _ ≠ some g1; intro e; injection e; omega)
             have hne12 : g1 ≠ g2 := by
               have hbx := Hbx.out
               simp [Value.ownBlock] at hby
               omega
             clear hby hky hkx hoy
             have hOy := hO5'.ext hxy
             obtain ⟨v6, W6, hrun6, hO6, hx6⟩ := app_two (hx45.trans hxy) hOy ((hTx'.down hx45.size).inB) ((hTy.down hx45.size).inB) hne12 (fun x hx => by have h1 := hO5.lt hx; have h2 := hTx'.inB.1; have h3 := hTy.inB.1; simp only at h2 h3 ⊢; omega)
               (fun e => by have h1 := (hO5.out.lt _ e).2; have h2 := hTx'.inB.1; simp only at h1 h2; omega) (fun e => by have h1 := (hO5.out.lt _ e).2; have h2 := hTy.inB.1; simp only at h1 h2; omega) (by omega)
             simp only [M1.out, M2.out] at hrun6)
          | (refine step_app_run ?_ (.tmp 59) (.tmp 70) 24 ?_ ?_ ?_ ?_ hrun6 ?_
             · rfl
             · rfl
             · rfl
             · rfl
             · rfl
             skip)
          | fail)
      all_goals
        have hb6 := hO6.out.lt
        have hl6 : (R5 ++ [(⟨g1, c1, L.take n0⟩ : Row), ⟨g2, c2, L.drop n0⟩]).length ≤ q + 2 := by rw [List.length_append]; simp only [List.length_cons, List.length_nil]; omega
        have hOX := Lib.hid hOy
        clear hOy hTx' hTx hTy hrun6 hxx hxy hgx
        go_wp2_with (first
          | (go_at_call 63; (with_reducible refine (hc2 _ (by exact hx6)).mono ?_); rintro e W7 ⟨v7, R7, rfl, hO7, hm7, hx7⟩
             have hl7 := hn1 hm7
             rw [Hl2.out] at hl7
             have HM7 := Lib.hid hm7
             have hl7 := Nat.le_of_eq hl7
             have hO6' := hO6.ext hx7
             obtain ⟨v8, W8, hrun8, hO8, hx8⟩ := app_join (hx6.trans hx7) hO6' hO7 (fun x hx => hO6.lt hx) (fun j hj => (hb6 j hj).2) (by omega) hx6.size
             clear hm7)
          | (at_builtin; refine Lib.wpList_append_run _ rfl _ _ _ _ rfl _ _ rfl rfl _ _ hrun8 ?_))
        go_ret
        refine ⟨v8, R5 ++ [⟨g1, c1, L.take n0⟩, ⟨g2, c2, L.drop n0⟩] ++ R7, rfl, hO8, ?_, hx8⟩
        rw [List.map_append, List.map_append, HM5.out, HM7.out, Hins.out, HL.out, Hsp.out]
        rfl

theorem rput_nil (b : Int) (P : Option Addr) (cap : Nat) (index : Nat) (k : Int) (w : World) :
    Calls Try.prog 45 #[.int .i64 b, .slice P 0 cap, .int .i64 index, .int .i64 k] w (ArrPost (insF b [] index k) w) := by
  obtain ⟨W2, hW2⟩ : ∃ W2, w.alloc (.cells #[.int .i64 k] 3) = W2 := ⟨_, rfl⟩
  have hx2 : Ext w W2 := by rw [← hW2]; exact (Ext.refl w).alloc _
  have b1 : Boxed W2 w.heap.size 3 (.int .i64 k) := by rw [← hW2]; exact Boxed.new _ _ _
  have hr : InB W2 w.heap.size ⟨w.heap.size, 1, [k]⟩ := ⟨Nat.le_refl _, #[.int .i64 k], b1, by simp, by simp, by simp, by simp [intVs]⟩
  obtain ⟨W3, hW3⟩ : ∃ W3, W2.alloc (.cells #[.slice (some ⟨w.heap.size, 0, none⟩) 1 1] 22) = W3 := ⟨_, rfl⟩
  have hx3 : Ext W2 W3 := by rw [← hW3]; exact (Ext.refl W2).alloc _
  have hz2 : W2.heap.size = w.heap.size + 1 := by rw [← hW2, World.size_alloc]
  have b2 : Boxed W3 W2.heap.size 22 (.slice (some ⟨w.heap.size, 0, none⟩) 1 1) := by rw [← hW3]; exact Boxed.new _ _ _
  have hO : OwnA W3 w.heap.size (.slice (some ⟨W2.heap.size, 0, none⟩) 1 1) [⟨w.heap.size, 1, [k]⟩] := by
    refine ⟨⟨by simp, .inr ⟨W2.heap.size, 1, #[.slice (some ⟨w.heap.size, 0, none⟩) 1 1], rfl, hx2.size, b2, by simp, by simp [maxLen], by simp, by simp [Row.v]⟩⟩, fun r hr' => ?_, by simp, fun r hr' => ?_⟩
    · simp at hr'; subst hr'; exact hr.same (hx3.block hr.lt)
    · simp at hr'; subst hr'; simp [Value.ownBlock]; omega
  have hB := hx2.trans hx3
  have Hall : Hid (OwnA W3 w.heap.size (.slice (some ⟨W2.heap.size, 0, none⟩) 1 1) [⟨w.heap.size, 1, [k]⟩] ∧ Ext w W3 ∧ w.alloc (.cells #[.int .i64 k] 3) = W2 ∧ W2.alloc (.cells #[.slice (some ⟨w.heap.size, 0, none⟩) 1 1] 22) = W3) := Lib.hid ⟨hO, hB, hW2, hW3⟩
  clear hW2 hx2 hW3 hx3 hz2 b1 b2 hO hB hr
  go_enter Try.func45, Try.ntmps45
  go_wp2
  obtain ⟨hO, hB, hW2, hW3⟩ := Hall.out
  subst hW2 hW3
  simp only [World.size_alloc] at hO hB
  go_ret
  exact ⟨_, _, rfl, hO, by rw [insF_nil]; rfl, hB⟩
theorem rput_any (b : Int) (hb : roomB b = true) (P : Option Addr) (cap : Nat) (Q : Nat → Option Addr) (C : Nat → Nat) (LL : List (List Int)) (index : Nat) (k : Int) (w : World) (h : SlA w P cap Q C LL) (hblk : BlocksOk b LL) (hi : index ≤ LL.flatten.length) (ht : LL.flatten.length ≤ 600) :
    Calls Try.prog 45 #[.int .i64 b, .slice P LL.length cap, .int .i64 index, .int .i64 k] w (ArrPost (insF b LL index k) w) := by
  by_cases h0 : LL = []
  · subst h0; exact rput_nil b P cap index k w
  · exact rput_at b hb P cap Q C LL index k w h hblk hi ht h0
end Go.Proofs.Ytiakmcfbkceojaa
