/- Arrays, the reference: put. -/
import Derived.Test.YtgdbhmdhonnmgaaDoorArR1
import Derived.Deep.RegionHeld3
namespace Go.Proofs.YtgdbhmdhonnmgaaDoor
open Go.RowKit Go.Maps
set_option linter.unusedVariables false
set_option maxRecDepth 20000
set_option linter.unusedSimpArgs false
set_option maxRecDepth 20000
attribute [local go_sem] Oper.semAt_some

theorem alloc_at (W : World) (o : Obj) (E : Nat) (h : W.heap.size = E) : (W.alloc o).heap[E]? = some o := by subst h; exact World.alloc_heap_new _ _
theorem own_ne {E N n c : Nat} (h : E ≠ N) : (Value.slice (some ⟨E, 0, none⟩) n c).ownBlock ≠ some N := fun e => h (by simpa [Value.ownBlock] using e)
/-- an empty row -/
theorem own0 {W : World} {base E : Nat} (hE : W.heap[E]? = some (.cells #[] 3 (0, 0))) (hb : base ≤ E) : W.ownsRow base 3 1 (.slice (some ⟨E, 0, none⟩) 0 0) ([] : List Int).length (intVs []) :=
  ⟨by simp [intVs], .inr ⟨E, 0, #[], rfl, hb, hE, by simp, by simp [maxLen], by simp, by simp [intVs]⟩⟩
section
variable {w : World} {ops : Array Oper} {o : Oper} {a : Act} {K : Act → World → Prop} {Q : Exit → Act → World → Prop} {E : Prop}
/-- an append of a list, at a step of a region that draws -/
theorem step_app_ints (w0 : World) (hgd : o.guard = none) (s x : Operand) (ho : o.op = .call { callee := .builtin .append, args := #[s, x], argTypes := #[31, 31] }) (hty : o.type = 31) (v : Value) (l m : List Int) (n b off cap : Nat)
    (hs : a.eval s = v) (hx : a.eval x = .slice (some ⟨b, off, none⟩) n cap) (hn : m.length = n) (hown : w.ownsRow w0.heap.size 3 1 v l.length (intVs l)) (hm : SlI w (some ⟨b, off, none⟩) cap m) (hl : l.length + n ≤ 100000) (hx0 : Ext w0 w)
    (h : ∀ v' w', w'.ownsRow w0.heap.size 3 1 v' (l ++ m).length (intVs (l ++ m)) → Ext w0 w' → w.grownBy w' v.ownBlock → (v'.ownBlock = v.ownBlock ∨ v'.ownBlock = some w.heap.size) → K (a.put o.dst v') w') : if Region.wanted o (yielded ops a.tmps) = true then Oper.wp Tryd.prog o a w K Q else E := by
  rw [if_pos (by simp [Region.wanted, hgd])]
  subst hn
  obtain ⟨v', w', hr, h1, h2, h3⟩ := append_ints w w0.heap.size v l m b off cap hown hm hl hx0.size
  rw [← hty] at hr
  exact wp_append_at s x 31 ho v _ hs hx (by rw [← hty]; exact hr) (h v' w' h1 (Below.grown hx0 h2 hx0.size (fun j hj => (hown.lt j hj).1)) h2 h3)
end
/-- an append of a list to a new empty row, at a step of a region that draws -/
theorem step_app_fresh {w : World} {ops : Array Oper} {o : Oper} {a : Act} {K : Act → World → Prop} {Q : Exit → Act → World → Prop} {F : Prop} (w0 : World) (hgd : o.guard = none) (s x : Operand) (ho : o.op = .call { callee := .builtin .append, args := #[s, x], argTypes := #[31, 31] }) (hty : o.type = 31) (E : Nat) (m : List Int) (n b off cap : Nat)
    (hs : a.eval s = .slice (some ⟨E, 0, none⟩) 0 0) (hx : a.eval x = .slice (some ⟨b, off, none⟩) n cap) (hn : m.length = n) (hE : w.heap[E]? = some (.cells #[] 3 (0, 0))) (hbE : w0.heap.size ≤ E) (hm : SlI w (some ⟨b, off, none⟩) cap m) (hl : n ≤ 100000) (hx0 : Ext w0 w)
    (h : ∀ v' w', w'.ownsRow w0.heap.size 3 1 v' m.length (intVs m) → Ext w0 w' → w.grownBy w' (some E) → (v'.ownBlock = some E ∨ v'.ownBlock = some w.heap.size) → K (a.put o.dst v') w') : if Region.wanted o (yielded ops a.tmps) = true then Oper.wp Tryd.prog o a w K Q else F :=
  step_app_ints w0 hgd s x ho hty _ [] m n b off cap hs hx hn (own0 hE hbE) hm (by simp only [List.length_nil]; omega) hx0 (fun v' w' h1 h2 h3 h4 => h v' w' (by simpa using h1) h2 h3 h4)
theorem grown_heap {w w' : World} {row : Option Nat} (h : w.grownBy w' row) {N : Nat} {o : Obj} (hN : w.heap[N]? = some o) (hne : row ≠ some N) : w'.heap[N]? = some o :=
  (h.block N (Array.getElem?_eq_some_iff.1 hN).1 (fun e => hne e.symm)).trans hN
theorem TightB.grown {w w' : World} {row : Option Nat} {base : Nat} {r : Row} (h : TightB w base r) (hg : w.grownBy w' row) (hne : row ≠ some r.h) : TightB w' base r :=
  h.same (hg.block _ h.inB.lt (fun e => hne e.symm))
theorem SlI.block1 {W : World} {g : Nat} {k : Int} (h : W.heap[g]? = some (.cells #[.int .i64 k] 3 (0, 0))) : SlI W (some ⟨g, 0, none⟩) 1 [k] :=
  ⟨fun i hi => ⟨g, 0, rfl, by obtain rfl : i = 0 := by simpa using hi
                              exact one_at h⟩, by simp, by omega⟩
theorem SlI.takes {W : World} {P : Option Addr} {c : Nat} {l : List Int} (h : SlI W P c l) (n : Nat) (hn : n ≤ l.length) : SlI W P c (l.take n) := by
  have hl : (l.take n).length = n := by rw [List.length_take]; omega
  have := h.le
  refine ⟨fun i hi => ?_, by omega, h.cap⟩
  obtain ⟨b, off, e, hc⟩ := h.at_ i (by omega)
  refine ⟨b, off, e, ?_⟩
  rw [hc]
  simp [nthI, List.getD_eq_getElem?_getD, show i < n by omega]
theorem SlI.drops {W : World} {b off c : Nat} {l : List Int} (h : SlI W (some ⟨b, off, none⟩) c l) (n : Nat) (hn : n ≤ l.length) : SlI W (some ⟨b, off + n, none⟩) (c - n) (l.drop n) := by
  have hl : (l.drop n).length = l.length - n := List.length_drop
  have := h.le
  have := h.cap
  refine ⟨fun i hi => ?_, by omega, by omega⟩
  obtain ⟨b', off', e, hc⟩ := h.at_ (n + i) (by omega)
  simp only [Option.some.injEq, Addr.mk.injEq, and_true] at e
  obtain ⟨rfl, rfl⟩ := e
  refine ⟨_, _, rfl, ?_⟩
  rw [Nat.add_assoc, hc]
  simp [nthI, List.getD_eq_getElem?_getD, List.getElem?_drop]
/-- a slice from p on, wherever it lies -/
theorem slice_from (b off len c p : Nat) (hp : p ≤ len) (hc : len ≤ c) (T : TypeId) (hT : Tryd.prog.underlying T = some (.slice (Tryd.prog.elem T))) (hs : (Tryd.prog.info? (Tryd.prog.elem T)).map (·.size) = some 1) :
    ∀ w, (Instr.slice T (.slice (some ⟨b, off, none⟩) len c) (some (.int .i64 p)) none none).run Tryd.prog w = .ok (.slice (some ⟨b, if c = p then off else off + p, none⟩) (len - p) (c - p)) w := by
  intro w
  rw [run_slice_l (w := w) T (some ⟨b, off, none⟩) len c hT .i64 p (by omega) (by omega)]
  cases hq : Tryd.prog.info? (Tryd.prog.elem T) with
  | none => simp [hq] at hs
  | some i =>
    have hi : i.size = 1 := by simpa [hq] using hs
    simp [sizeOf, typeInfo, hq, hi, sliced, Result.andThen]
    by_cases h : c = p
    · simp [h]
    · simp [h, Go.WideShapes.add_plain]
theorem SlI.from {W : World} {b off c : Nat} {l : List Int} (h : SlI W (some ⟨b, off, none⟩) c l) (p : Nat) (hp : p ≤ l.length) : SlI W (some ⟨b, if c = p then off else off + p, none⟩) (c - p) (l.drop p) := by
  by_cases hc : c = p
  · rw [if_pos hc]
    have h1 := h.le
    have h2 : l.drop p = [] := List.drop_eq_nil_iff.2 (by omega)
    rw [h2]
    exact ⟨fun i hi => by simp at hi, by simp, by omega⟩
  · rw [if_neg hc]; exact h.drops p hp
theorem SlA.from {w : World} {b off cap : Nat} {Q : Nat → Option Addr} {C : Nat → Nat} {LL : List (List Int)} (h : SlA w (some ⟨b, off, none⟩) cap Q C LL) (p : Nat) (hp : p ≤ LL.length) : SlA w (some ⟨b, if cap = p then off else off + p, none⟩) (cap - p) (fun i => Q (p + i)) (fun i => C (p + i)) (LL.drop p) := by
  by_cases hc : cap = p
  · rw [if_pos hc]
    have h1 := h.le
    have h2 : LL.drop p = [] := List.drop_eq_nil_iff.2 (by omega)
    rw [h2]
    exact SlA.empty _ _ (by omega) _ _
  · rw [if_neg hc]; exact h.drop p hp
/-- append of nothing -/
theorem run_app_nil (w : World) (base : Nat) (t ty e : TypeId) (ht : Tryd.prog.underlying t = some (.slice e)) (hs : (Tryd.prog.info? e).map (·.size) = some 1)
    (v : Value) (n : Nat) (xs : List Value) (hown : w.ownsRow base e 1 v n xs) : (Builtin.append_ #[t, t] ty #[v, .slice none 0 0]).run Tryd.prog w = .ok v w := by
  cases hq : Tryd.prog.info? e with
  | none => simp [hq] at hs
  | some i =>
    rcases hown.2 with ⟨rfl, _⟩ | ⟨g, cap, cur, rfl, _, _, hnc, _⟩
    · simp [Builtin.append_, run_underlying ht, sizeOf, typeInfo, hq, Builtin.lenOf, Builtin.firstCells]
    · simp [Builtin.append_, run_underlying ht, sizeOf, typeInfo, hq, Builtin.lenOf, Builtin.firstCells, hnc, storeCells]
section
variable {w : World} {base : Nat} {v : Value} {A B : List Row}
/-- blocks put behind an array -/
theorem OwnA.app (h : OwnA w base v A) (b off c2 : Nat) (hsrc : ∀ j u, (B.map Row.v)[j]? = some u → w.cell? ((⟨b, off, none⟩ : Addr).add j) = some u) (hB : ∀ x ∈ B, InB w base x) (hnd : (B.map Row.h).Nodup)
    (hAB : ∀ x ∈ A, ∀ y ∈ B, x.h ≠ y.h) (hv : ∀ y ∈ B, v.ownBlock ≠ some y.h) (hn : A.length + B.length ≤ 100000) (hb : base ≤ w.heap.size) :
    ∃ v' w', (Builtin.append_ #[22, 22] 22 #[v, .slice (some ⟨b, off, none⟩) B.length c2]).run Tryd.prog w = .ok v' w' ∧ OwnA w' base v' (A ++ B) ∧ w.grownBy w' v.ownBlock ∧ (v'.ownBlock = v.ownBlock ∨ v'.ownBlock = some w.heap.size) := by
  obtain ⟨i0, hi, hz0, hz1, hz2⟩ := info_parts infoJ
  obtain ⟨v', w', r1, r2, r3, _, r5⟩ := run_append_own_at (P := Tryd.prog) w base 22 22 31 i0 _ 1 24 Tryd.underlying22 hi hz0 hz1 hz2 rfl (by decide) v A.length (A.map Row.v) h.out ⟨b, off, none⟩ B.length c2 (B.map Row.v) (by simp) hsrc (rowVs_one B) (by simp only [maxLen]; omega) (by omega) hb
  refine ⟨v', w', r1, ⟨?_, fun x hx => ?_, ?_, fun x hx e => ?_⟩, r3, r5⟩
  · rw [List.length_append, List.map_append]; exact r2
  · rcases List.mem_append.1 hx with hx | hx
    · exact (h.row x hx).same (r3.block _ (h.lt hx) (fun e => h.far x hx e.symm))
    · exact (hB x hx).same (r3.block _ (hB x hx).lt (fun e => hv x hx e.symm))
  · rw [List.map_append, List.nodup_append]
    refine ⟨h.apart, hnd, fun x hx y hy => ?_⟩
    simp only [List.mem_map] at hx hy
    obtain ⟨x, hx, rfl⟩ := hx
    obtain ⟨y, hy, rfl⟩ := hy
    exact hAB x hx y hy
  · have hxl : x.h < w.heap.size ∧ v.ownBlock ≠ some x.h := by
      rcases List.mem_append.1 hx with hx | hx
      · exact ⟨h.lt hx, h.far x hx⟩
      · exact ⟨(hB x hx).lt, hv x hx⟩
    rcases r5 with e5 | e5
    · exact hxl.2 (e5 ▸ e)
    · rw [e5] at e
      injection e with e
      omega
/-- an array put behind an array -/
theorem OwnA.join {base2 : Nat} {v2 : Value} (h : OwnA w base v A) (h2 : OwnA w base2 v2 B) (hA : ∀ x ∈ A, x.h < base2) (hv : ∀ k, v.ownBlock = some k → k < base2) (hn : A.length + B.length ≤ 100000) (hbb : base ≤ base2) (hb : base ≤ w.heap.size) :
    ∃ v' w', (Builtin.append_ #[22, 22] 22 #[v, v2]).run Tryd.prog w = .ok v' w' ∧ OwnA w' base v' (A ++ B) ∧ w.grownBy w' v.ownBlock ∧ (v'.ownBlock = v.ownBlock ∨ v'.ownBlock = some w.heap.size) := by
  rcases h2.cases with ⟨rfl, rfl⟩ | ⟨g, cap, rfl, hg, hc, _⟩
  · exact ⟨v, w, run_app_nil w base _ _ _ Tryd.underlying22 sizeJ v _ _ h.out, by rw [List.append_nil]; exact h, World.grownBy.refl w _, .inl rfl⟩
  · refine h.app g 0 cap (fun j u hj => ?_) (fun x hx => (h2.row x hx).down hbb) h2.apart (fun x hx y hy e => ?_) (fun y hy e => ?_) hn hb
    · have hjl := (List.getElem?_eq_some_iff.1 hj).1
      rw [Go.WideShapes.add_plain, Nat.zero_add]
      have := h2.out.cellAt j (by simpa using hjl)
      rw [this, hj]
    · have h3 := hA x hx
      have h4 := h2.ge hy
      omega
    · have h3 := hv _ e
      have h4 := h2.ge hy
      omega
end
/-- one block put behind, from a new cell -/
theorem app_one {w W : World} {v : Value} {A : List Row} {r : Row} (hx : Ext w W) (h : OwnA W w.heap.size v A) (hr : InB W w.heap.size r) (hne : ∀ x ∈ A, x.h ≠ r.h) (hv : v.ownBlock ≠ some r.h) (hn : A.length ≤ 10000) :
    ∃ v' W', (Builtin.append_ #[22, 22] 22 #[v, .slice (some ⟨W.heap.size, 0, none⟩) 1 1]).run Tryd.prog (W.alloc (.cells #[.slice (some ⟨r.h, 0, none⟩) r.l.length r.c] 31)) = .ok v' W' ∧ OwnA W' w.heap.size v' (A ++ [r]) ∧ Ext w W' := by
  have hx1 : Ext W (W.alloc (.cells #[.slice (some ⟨r.h, 0, none⟩) r.l.length r.c] 31)) := (Ext.refl W).alloc _
  have ho := h.ext hx1
  have hblk := ho.out.lt
  obtain ⟨v', w', h1, h2, h3, h4⟩ := ho.app (B := [r]) W.heap.size 0 1 (fun j u hj => by
    have hjl := (List.getElem?_eq_some_iff.1 hj).1
    obtain rfl : j = 0 := by simpa using hjl
    simp only [List.map_cons, List.map_nil, List.getElem?_cons_zero, Option.some.injEq] at hj
    subst hj
    exact one_at (World.alloc_heap_new W _)) (fun x hx' => by simp at hx'; subst hx'; exact hr.same (hx1.block hr.lt)) (by simp) (fun x hx' y hy => by simp at hy; subst hy; exact hne x hx') (fun y hy => by simp at hy; subst hy; exact hv) (by simp; omega) (hx.trans hx1).size
  exact ⟨v', w', h1, h2, Below.grown (hx.trans hx1) h3 (hx.trans hx1).size (fun j hj => (hblk j hj).1)⟩
/-- an array put behind an array -/
theorem app_join {w W : World} {base2 : Nat} {v v2 : Value} {A B : List Row} (hx : Ext w W) (h : OwnA W w.heap.size v A) (h2 : OwnA W base2 v2 B) (hA : ∀ x ∈ A, x.h < base2) (hv : ∀ k, v.ownBlock = some k → k < base2) (hn : A.length + B.length ≤ 100000) (hbb : w.heap.size ≤ base2) :
    ∃ v' W', (Builtin.append_ #[22, 22] 22 #[v, v2]).run Tryd.prog W = .ok v' W' ∧ OwnA W' w.heap.size v' (A ++ B) ∧ Ext w W' := by
  have hblk := h.out.lt
  obtain ⟨v', w', h1, h2, h3, h4⟩ := h.join h2 hA hv hn hbb hx.size
  exact ⟨v', w', h1, h2, Below.grown hx h3 hx.size (fun j hj => (hblk j hj).1)⟩
/-- two blocks put behind, from new cells -/
theorem app_two {w W : World} {v : Value} {A : List Row} {r1 r2 : Row} (hx : Ext w W) (h : OwnA W w.heap.size v A) (hr1 : InB W w.heap.size r1) (hr2 : InB W w.heap.size r2) (h12 : r1.h ≠ r2.h) (hne : ∀ x ∈ A, x.h ≠ r1.h ∧ x.h ≠ r2.h) (hv1 : v.ownBlock ≠ some r1.h) (hv2 : v.ownBlock ≠ some r2.h) (hn : A.length ≤ 10000) :
    ∃ v' W', (Builtin.append_ #[22, 22] 22 #[v, .slice (some ⟨W.heap.size, 0, none⟩) 2 2]).run Tryd.prog (W.alloc (.cells #[.slice (some ⟨r1.h, 0, none⟩) r1.l.length r1.c, .slice (some ⟨r2.h, 0, none⟩) r2.l.length r2.c] 31)) = .ok v' W' ∧ OwnA W' w.heap.size v' (A ++ [r1, r2]) ∧ Ext w W' := by
  have hx1 : Ext W (W.alloc (.cells #[.slice (some ⟨r1.h, 0, none⟩) r1.l.length r1.c, .slice (some ⟨r2.h, 0, none⟩) r2.l.length r2.c] 31)) := (Ext.refl W).alloc _
  have ho := h.ext hx1
  have hblk := ho.out.lt
  obtain ⟨v', w', h1, h2, h3, h4⟩ := ho.app (B := [r1, r2]) W.heap.size 0 2 (fun j u hj => by
    have hjl := (List.getElem?_eq_some_iff.1 hj).1
    have hb : (W.alloc (.cells #[.slice (some ⟨r1.h, 0, none⟩) r1.l.length r1.c, .slice (some ⟨r2.h, 0, none⟩) r2.l.length r2.c] 31)).heap[W.heap.size]? = _ := World.alloc_heap_new W (.cells #[.slice (some ⟨r1.h, 0, none⟩) r1.l.length r1.c, .slice (some ⟨r2.h, 0, none⟩) r2.l.length r2.c] 31)
    rw [Go.WideShapes.add_plain, Nat.zero_add]
    match j, hjl with
    | 0, _ => unfold World.cell?; simp only [hb]; exact hj
    | 1, _ => unfold World.cell?; simp only [hb]; exact hj) (fun x hx' => by
      simp at hx'
      rcases hx' with rfl | rfl
      · exact hr1.same (hx1.block hr1.lt)
      · exact hr2.same (hx1.block hr2.lt)) (by simpa using h12) (fun x hx' y hy => by
      simp at hy
      rcases hy with rfl | rfl
      · exact (hne x hx').1
      · exact (hne x hx').2) (fun y hy => by
      simp at hy
      rcases hy with rfl | rfl
      · exact hv1
      · exact hv2) (by simp; omega) (hx.trans hx1).size
  exact ⟨v', w', h1, h2, Below.grown (hx.trans hx1) h3 (hx.trans hx1).size (fun j hj => (hblk j hj).1)⟩
theorem step_app_run {w : World} {ops : Array Oper} {o : Oper} {a : Act} {K : Act → World → Prop} {Q : Exit → Act → World → Prop} {E : Prop} (hgd : o.guard = none) (s x : Operand) (t : TypeId) (ho : o.op = .call { callee := .builtin .append, args := #[s, x], argTypes := #[t, t] }) (hty : o.type = t)
    {vs vx : Value} (hs : a.eval s = vs) (hx : a.eval x = vx) {v' : Value} {w' : World} (hr : (Builtin.append_ #[t, t] t #[vs, vx]).run Tryd.prog w = .ok v' w') (h : K (a.put o.dst v') w') : if Region.wanted o (yielded ops a.tmps) = true then Oper.wp Tryd.prog o a w K Q else E := by
  rw [if_pos (by simp [Region.wanted, hgd])]
  exact wp_append_at s x t ho _ _ hs hx (by rw [hty]; exact hr) h
/-- how the reference's functions that give blocks end -/
def ArrPost (RL : List (List Int)) (w : World) (e : Ending) (w' : World) : Prop := ∃ v RR, e = .returned v ∧ OwnA w' w.heap.size v RR ∧ RR.map Row.l = RL ∧ Ext w w'




end Go.Proofs.YtgdbhmdhonnmgaaDoor
