/- ArrayTexts: Parse of the program: a round. -/
import Derived.Test.YtgdbhmdhonnmgaaDoorArYC
import Derived.Test.YtgdbhmdhonnmgaaDoorArR2
import Derived.OwnWalkIn
import Derived.RangeFuncBox
import Derived.RangeFuncNested
import Derived.Lib.SliceRun
import Derived.WalkMore
namespace Go.Proofs.YtgdbhmdhonnmgaaDoor
open Go.RowKit Go.Maps
set_option linter.unusedVariables false
set_option linter.unusedSimpArgs false
set_option linter.unusedSectionVars false
set_option maxRecDepth 100000
attribute [local go_sem] Oper.semAt_some

theorem wpListIn_app_run {F : Fence} {n : Nat} {P : Program} (w : World) {ops : Array Oper} {rest : List Oper} {o : Oper} {a : Act} {Q : Exit → Act → World → Prop} (hgd : o.guard = none) (s x : Operand) (t : TypeId)
    (ho : o.op = .call { callee := .builtin .append, args := #[s, x], argTypes := #[t, t] }) (vs vx : Value) (hs : a.eval s = vs) (hx : a.eval x = vx)
    (v' : Value) (w' : World) (hr : (Builtin.append_ #[t, t] o.type #[vs, vx]).run P w = .ok v' w') (h : wpListIn F n P ops Q rest (a.put o.dst v') w') : wpListIn F n P ops Q (o :: rest) a w := by
  refine wpListIn_plain hgd fun K hK => ?_
  unfold Oper.wpIn
  refine ⟨by simp [Oper.about, ho, resolve, Target.leads, Sem.run_pure], ?_⟩
  rw [Oper.semAt_plain F _ _ (by rw [ho]; intro c hc'; cases hc')]
  simp [execOp, ho, resolve, invoke, builtin, hs, hx, hr, Result.andThen]
  exact hK _ _ h
/-- one block put behind, from a new cell; what lies below is as it was -/
theorem app_one_c {w W : World} {base : Nat} {v : Value} {A : List Row} {r : Row} (hwb : w.heap.size ≤ base) (hbW : base ≤ W.heap.size) (hx : Ext w W) (h : OwnA W base v A) (hr : InB W base r) (hne : ∀ x ∈ A, x.h ≠ r.h) (hv : v.ownBlock ≠ some r.h) (hn : A.length ≤ 10000) :
    ∃ v' W', (Builtin.append_ #[22, 22] 22 #[v, .slice (some ⟨W.heap.size, 0, none⟩) 1 1]).run Tryd.prog (W.alloc (.cells #[.slice (some ⟨r.h, 0, none⟩) r.l.length r.c] 31)) = .ok v' W' ∧ OwnA W' base v' (A ++ [r]) ∧ Ext w W' ∧ (∀ g o, g < base → W.heap[g]? = some o → W'.heap[g]? = some o) := by
  have hx1 : Ext W (W.alloc (.cells #[.slice (some ⟨r.h, 0, none⟩) r.l.length r.c] 31)) := (Ext.refl W).alloc _
  have ho := h.ext hx1
  have hblk := ho.out.lt
  obtain ⟨v', w', h1, h2, h3, h4⟩ := ho.app (B := [r]) W.heap.size 0 1 (fun j u hj => by
    have hjl := (List.getElem?_eq_some_iff.1 hj).1
    obtain rfl : j = 0 := by simpa using hjl
    simp only [List.map_cons, List.map_nil, List.getElem?_cons_zero, Option.some.injEq] at hj
    subst hj
    exact one_at (World.alloc_heap_new W _)) (fun x hx' => by simp at hx'; subst hx'; exact hr.same (hx1.block hr.lt)) (by simp) (fun x hx' y hy => by simp at hy; subst hy; exact hne x hx') (fun y hy => by simp at hy; subst hy; exact hv) (by simp; omega) (by rw [World.size_alloc]; omega)
  exact ⟨v', w', h1, h2, Below.grown (hx.trans hx1) h3 (hx.trans hx1).size (fun j hj => by have := (hblk j hj).1; omega), fun g o hg ho => (grown_heap h3 (hx1.heap ho) (fun e => by have := (hblk g e).1; omega))⟩
/-- what is read so far: in the two named results -/
structure PS (w : World) (n2 n3 base : Nat) (st : Int × List (List Int)) (W : World) : Prop where
  b : Boxed W n2 3 (.int .i64 st.1)
  a : ∃ v RR, Boxed W n3 22 v ∧ OwnA W base v RR ∧ RR.map Row.l = st.2 ∧ (RR = [] → v = .slice none 0 0)
  x : Ext w W
theorem PS.ext {w W W' : World} {n2 n3 base : Nat} {st : Int × List (List Int)} (h : PS w n2 n3 base st W) (hx : Ext W W') : PS w n2 n3 base st W' := by
  obtain ⟨v, RR, h1, h2, h3⟩ := h.a
  exact ⟨hx.heap h.b, ⟨v, RR, hx.heap h1, h2.ext hx, h3⟩, h.x.trans hx⟩
theorem PS.upd {w W W' : World} {n2 n3 base k : Nat} {st : Int × List (List Int)} (h : PS w n2 n3 base st W) (hu : Upd W k W') (h1 : w.heap.size ≤ k) (h2 : n2 ≠ k) (h3 : n3 ≠ k) (h4 : k < base) : PS w n2 n3 base st W' := by
  obtain ⟨v, RR, a1, a2, a3⟩ := h.a
  exact ⟨hu.heap h.b h2, ⟨v, RR, hu.heap a1 h3, a2.kept hu (fun e => by have := (a2.out.lt _ e).1; omega) (fun r hr e => by have := a2.ge hr; omega), a3⟩, Upd.ext h.x hu h1⟩
theorem PS.setB {w W : World} {n2 n3 base : Nat} {st : Int × List (List Int)} (h : PS w n2 n3 base st W) (h1 : w.heap.size ≤ n2) (h3 : n3 ≠ n2) (h4 : n2 < base) (b' : Int) : PS w n2 n3 base (b', st.2) (W.setCell ⟨n2, 0, none⟩ (.int .i64 b')) := by
  obtain ⟨v, RR, a1, a2, a3⟩ := h.a
  have hu : Upd W n2 (W.setCell ⟨n2, 0, none⟩ (.int .i64 b')) := Upd.setCell _ _ _ _
  exact ⟨h.b.set _, ⟨v, RR, hu.heap a1 h3, a2.kept hu (fun e => by have := (a2.out.lt _ e).1; omega) (fun r hr e => by have := a2.ge hr; omega), a3⟩, Upd.ext h.x hu h1⟩
theorem own_some {W : World} {base : Nat} {v : Value} {RR : List Row} (h : OwnA W base v RR) (hn : RR ≠ []) : ∃ g c, v = .slice (some ⟨g, 0, none⟩) RR.length c := by
  rcases h.out.2 with ⟨_, e⟩ | ⟨g, c, cur, e, _⟩
  · exact absurd (List.length_eq_zero_iff.1 e) hn
  · exact ⟨g, c, e⟩
/-- the reading up to line i -/
def readN (t : List UInt8) (i : Nat) : Int × List (List Int) := ((linesC t).take i).foldl stepP (0, [])
def lineN (t : List UInt8) (i : Nat) : List UInt8 := (linesC t).getD i []
theorem readN_succ (t : List UInt8) (i : Nat) (h : i < (linesC t).length) : readN t (i + 1) = stepP (readN t i) (lineN t i) := by
  unfold readN lineN
  rw [List.take_add_one, List.getElem?_eq_getElem h, List.foldl_append, List.getD_eq_getElem?_getD, List.getElem?_eq_getElem h]
  rfl
theorem readN_all (t : List UInt8) : readN t (linesC t).length = readP t := by unfold readN readP; rw [List.take_length]
theorem atoiV_in (l : List UInt8) : In64 (atoiV l) := by
  unfold atoiV
  rcases h : Lib.atoiAll l with v | _ | _
  · skip
    simp only
    cases l with
    | nil => simp [Lib.atoiAll] at h
    | cons c r =>
      simp only [Lib.atoiAll] at h
      split at h
      · cases h
      · cases h
      · rename_i u hu
        split at h
        · cases h
        · split at h
          · cases h
          · rename_i h1 h2
            injection h with h
            subst h
            unfold In64
            split
            · rename_i hc
              have : ¬ 9223372036854775808 < u := fun hh => h2 ⟨hc, hh⟩
              omega
            · rename_i hc
              have : ¬ 9223372036854775808 ≤ u := fun hh => h1 ⟨hc, hh⟩
              omega
  · simp only; exact ⟨by decide, by decide⟩
  · simp only; unfold Lib.atoiSat; split <;> exact ⟨by decide, by decide⟩
theorem stepP_len (st : Int × List (List Int)) (l : List UInt8) : (stepP st l).2.length ≤ st.2.length + 1 := by
  unfold stepP
  split
  · simp
  · simp
theorem stepP_in (st : Int × List (List Int)) (l : List UInt8) (h : ∀ x ∈ st.2, ∀ y ∈ x, In64 y) : ∀ x ∈ (stepP st l).2, ∀ y ∈ x, In64 y := by
  unfold stepP
  split
  · exact h
  · intro x hx y hy
    rcases List.mem_append.1 hx with h1 | h1
    · exact h x h1 y hy
    · simp at h1
      subst h1
      obtain ⟨z, _, rfl⟩ := List.mem_map.1 hy
      exact atoiV_in z
theorem fold_facts : ∀ (ls : List (List UInt8)) (st : Int × List (List Int)), (∀ x ∈ st.2, ∀ y ∈ x, In64 y) → (ls.foldl stepP st).2.length ≤ st.2.length + ls.length ∧ ∀ x ∈ (ls.foldl stepP st).2, ∀ y ∈ x, In64 y
  | [], st, h => ⟨by simp, h⟩
  | l :: ls, st, h => by
    obtain ⟨h1, h2⟩ := fold_facts ls (stepP st l) (stepP_in st l h)
    have h3 := stepP_len st l
    refine ⟨?_, h2⟩
    rw [List.foldl_cons, List.length_cons]
    omega
theorem readN_facts (t : List UInt8) (i : Nat) : (readN t i).2.length ≤ i ∧ ∀ x ∈ (readN t i).2, ∀ y ∈ x, In64 y := by
  obtain ⟨h1, h2⟩ := fold_facts ((linesC t).take i) (0, []) (by simp)
  refine ⟨?_, h2⟩
  have : ((linesC t).take i).length ≤ i := by rw [List.length_take]; omega
  simp at h1
  unfold readN
  omega
theorem linesC_len : ∀ (t : List UInt8), (linesC t).length ≤ t.length
  | [] => by simp [linesC]
  | x :: r => by
    have := linesC_len r
    unfold linesC
    split
    · simp; omega
    · cases h : linesC r with
      | nil => simp [hdc]
      | cons p q => rw [h] at this; simp [hdc] at *; omega
theorem linesC_mem : ∀ (t : List UInt8), ∀ p ∈ linesC t, p.length ≤ t.length
  | [], p, h => by simp [linesC] at h
  | x :: r, p, h => by
    have hm := linesC_mem r
    unfold linesC at h
    split at h
    · rcases List.mem_cons.1 h with rfl | h
      · simp
      · have := hm p h; simp; omega
    · cases h' : linesC r with
      | nil => rw [h'] at h; simp [hdc] at h; simp [h]
      | cons a q =>
        rw [h'] at h hm
        simp only [hdc, List.mem_cons] at h
        rcases h with rfl | h
        · have := hm a (by simp); simp; omega
        · have := hm p (by simp [h]); simp; omega
theorem lineN_len (t : List UInt8) (i : Nat) : (lineN t i).length ≤ t.length := by
  unfold lineN
  rw [List.getD_eq_getElem?_getD]
  cases h : (linesC t)[i]? with
  | none => simp
  | some p => exact linesC_mem t p (List.mem_of_getElem? h)
theorem trim_len (l : List UInt8) : (Lib.trimSuffix l [10]).length ≤ l.length := by
  unfold Lib.trimSuffix
  split
  · rw [List.length_take]; omega
  · exact Nat.le_refl _
end Go.Proofs.YtgdbhmdhonnmgaaDoor
