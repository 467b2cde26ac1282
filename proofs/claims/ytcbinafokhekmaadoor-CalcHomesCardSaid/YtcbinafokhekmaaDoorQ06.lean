/- GenI0; GenB; ItM0; ItP; ItXC; CaD; CaE; CaF; CaG (merged by group.py) -/
import Derived.Test.YtcbinafokhekmaaDoorQ05
import Derived.Test.YtcbinafokhekmaaDoorQ02
import Derived.Lib.AppendZeros
import Derived.Lib.SliceRun
import Derived.Laws.OwnMore
import Derived.Test.YtcbinafokhekmaaDoorQ03
import Derived.Deep.RegionHeld3
import Derived.Deep.RegionLaw
import Derived.WalkSmall
import Derived.Test.YtcbinafokhekmaaDoorQ01
import Derived.Deep.LoopGhost
import Derived.StillTailTactics
import Derived.Laws.Rows
namespace Go.Proofs.YtcbinafokhekmaaDoor
section
open Go.RowKit
set_option linter.unusedVariables false
set_option maxRecDepth 20000
set_option linter.unusedSimpArgs false
set_option linter.unusedSectionVars false
set_option maxRecDepth 20000

section
variable {α : Type} {cs : α → List Value} {t e : TypeId} {k bytes : Nat} {w : World} {base : Nat}
end
section
variable {α : Type} {cs : α → List Value} {t e : TypeId} {k bytes : Nat} {w : World} {base : Nat} {ops : Array Oper} {rest : List Oper} {o : Oper} {a : Act} {Q : Exit → Act → World → Prop}
end
theorem SlG.ge0 {α : Type} {cs : α → List Value} {w : World} {P : Option Addr} {cap : Nat} {l : List α} (h : SlG cs w P cap l) (hl : 0 < l.length) (hk : ∀ x, 0 < (cs x).length) : P = none → False := by
  intro e
  obtain ⟨b, off, e2, _⟩ := h.at_ 0 _ (List.getElem?_eq_getElem hl)
  rw [e] at e2; cases e2
/-- numbers -/
abbrev SlI := @SlG Int (fun x => [.int .i64 x])
theorem SlG.intAt {w : World} {P : Option Addr} {cap : Nat} {l : List Int} (h : SlI w P cap l) (i : Nat) (hi : i < l.length) :
    ∃ b off, P = some ⟨b, off, none⟩ ∧ w.cell? ⟨b, off + i, none⟩ = some (.int .i64 (l.getD i 0)) := by
  obtain ⟨b, off, e, h1⟩ := h.at_ i (l.getD i 0) (by simp [List.getD_eq_getElem?_getD, hi])
  exact ⟨b, off, e, by have := h1 0 _ rfl; simpa using this⟩
theorem elemI : ElemG (fun x : Int => [.int .i64 x]) 59 3 1 8 where
  ht := Tryd.underlying59
  info := by
    have h : (Tryd.prog.info? 3).map (fun i => (i.zero, i.size, i.bytes)) = some (some (.int .i64 0), 1, 8) := by kernel_rfl
    cases hq : Tryd.prog.info? 3 with
    | none => simp [hq] at h
    | some i => simp [hq] at h; exact ⟨i, _, rfl, h.1, h.2.1, h.2.2, rfl⟩
  k0 := by omega
  hk := fun _ => rfl
  one := fun x u hu => by
    simp at hu
    subst hu; rfl
theorem OwnG.cell1 {α : Type} {cs : α → List Value} {e : TypeId} (hk : ∀ x, (cs x).length = 1) {w : World} {base g n cap : Nat} {l : List α} (h : OwnG cs e 1 w base (.slice (some ⟨g, 0, none⟩) n cap) l) (hn : n = l.length) (i : Nat) (x : α) (u : Value) (hi : l[i]? = some x) (hu : cs x = [u]) : w.cell? ⟨g, i, none⟩ = some u := by
  have := h.cell hk hn i x hi 0 u (by rw [hu]; rfl)
  simpa using this
theorem OwnG.set1 {α : Type} {cs : α → List Value} {e : TypeId} (hk : ∀ x, (cs x).length = 1) {w : World} {base g n cap : Nat} {l : List α} (h : OwnG cs e 1 w base (.slice (some ⟨g, 0, none⟩) n cap) l) (hn : n = l.length) (i : Nat) (x y : α) (u : Value) (hi : l[i]? = some x) (hy : cs y = [u]) :
    OwnG cs e 1 (w.setCell ⟨g, i, none⟩ u) base (.slice (some ⟨g, 0, none⟩) n cap) (l.set i y) := by
  have := h.setCell hk hn i 0 x y u hi (by
    have := hk x
    cases hx : cs x with
    | nil => rw [hx] at this; simp at this
    | cons a b =>
      rw [hx] at this
      cases b with
      | nil => rw [hy]; rfl
      | cons c d => simp at this) (by omega)
  simpa using this
theorem int_zero : ∃ i, Tryd.prog.info? 3 = some i ∧ i.zero = some (.int .i64 0) ∧ i.size = 1 ∧ i.bytes = 8 := by
  have h : (Tryd.prog.info? 3).map (fun i => (i.zero, i.size, i.bytes)) = some (some (.int .i64 0), 1, 8) := by kernel_rfl
  cases hq : Tryd.prog.info? 3 with
  | none => simp [hq] at h
  | some i => simp [hq] at h; exact ⟨i, rfl, h.1, h.2.1, h.2.2⟩
/-- make([]T, n) for elements of one cell -/
theorem wpList_make_G {α : Type} {cs : α → List Value} {t e : TypeId} {bytes : Nat} {w : World} {ops : Array Oper} {rest : List Oper} {o : Oper} {a : Act} {Q : Exit → Act → World → Prop} (z0 : α) {z : Value} (ht : Tryd.prog.underlying t = some (.slice e)) (hi : ∃ i, Tryd.prog.info? e = some i ∧ i.zero = some z ∧ i.size = 1 ∧ i.bytes = bytes) (hz0 : cs z0 = [z]) (hzc : z.cells = #[z])
    (hgd : o.guard = none) (lo co : Operand) (ho : o.op = .makeSlice t lo co) (n : Nat) (hl : a.eval lo = .int .i64 n) (hc : a.eval co = .int .i64 n) (hb : bytes * n ≤ 281474976710656) (hm : n ≤ 9223372036854775807)
    (h : ∀ w', OwnG cs e 1 w' w.heap.size (.slice (some ⟨w.heap.size, 0, none⟩) n n) (List.replicate n z0) → Ext w w' → wpList Tryd.prog ops Q rest (a.put o.dst (.slice (some ⟨w.heap.size, 0, none⟩) n n)) w') : wpList Tryd.prog ops Q (o :: rest) a w := by
  obtain ⟨i, h1, h2, h3, h4⟩ := hi
  obtain ⟨w', hr, ho', hg⟩ := run_make_full w w.heap.size t e i z 1 ht h1 h2 h3 .i64 .i64 n (by rw [h4]; exact hb) (by unfold maxLen; omega) (Nat.le_refl _)
  refine wpList_plain hgd fun K hK => ?_
  unfold Oper.wp
  simp only [execOp, ho, hl, hc, Sem.run_bind, hr, Result.andThen_ok, Sem.run_pure]
  rw [Oper.upon_value]
  refine hK _ _ (h w' ?_ (Below.grown (Below.refl _ _) hg (Nat.le_refl _) (fun k hk => by cases hk)))
  unfold OwnG
  rw [List.length_replicate, show (List.replicate n z0).flatMap cs = (madeCells z.cells (n * 1)).toList from by
    rw [hzc, Nat.mul_one, toList_madeCells_one]
    clear h hr ho' hm hb hl hc
    induction n with
    | zero => rfl
    | succ n ih => rw [List.replicate_succ, List.flatMap_cons, ih, hz0, List.replicate_succ]; rfl]
  exact ho'
abbrev OwnI (w : World) (base : Nat) (v : Value) (l : List Int) : Prop := OwnG (fun x : Int => [.int .i64 x]) 3 1 w base v l
end
section
open Go.RowKit
set_option linter.unusedVariables false
set_option maxRecDepth 20000
set_option linter.unusedSimpArgs false
set_option linter.unusedSectionVars false
set_option maxRecDepth 20000

theorem alloc_at (W : World) (o : Obj) (E : Nat) (h : W.heap.size = E) : (W.alloc o).heap[E]? = some o := by subst h; exact World.alloc_heap_new _ _
theorem grown_heap {w w' : World} {row : Option Nat} (h : w.grownBy w' row) {N : Nat} {o : Obj} (hN : w.heap[N]? = some o) (hne : row ≠ some N) : w'.heap[N]? = some o :=
  (h.block N (Array.getElem?_eq_some_iff.1 hN).1 (fun e => hne e.symm)).trans hN
/-- an empty row -/
theorem own0G {α : Type} {cs : α → List Value} {e : TypeId} {k : Nat} {W : World} {base E : Nat} (hE : W.heap[E]? = some (.cells #[] e (0, 0))) (hb : base ≤ E) : OwnG cs e k W base (.slice (some ⟨E, 0, none⟩) 0 0) [] :=
  ⟨by simp, .inr ⟨E, 0, #[], rfl, hb, hE, by simp, by simp [maxLen], by simp, by simp⟩⟩
section
variable {α : Type} {cs : α → List Value} {t e : TypeId} {k bytes : Nat} {w : World} {ops : Array Oper} {o : Oper} {a : Act} {K : Act → World → Prop} {Q : Exit → Act → World → Prop} {F : Prop}
/-- an append of a list, at a step of a region that draws -/
theorem step_app_G (w0 : World) (E : ElemG cs t e k bytes) (hgd : o.guard = none) (s x : Operand) (ho : o.op = .call { callee := .builtin .append, args := #[s, x], argTypes := #[t, t] }) (v : Value) (l m : List α) (n : Nat) (P : Option Addr) (cap : Nat)
    (hs : a.eval s = v) (hx : a.eval x = .slice P n cap) (hn : m.length = n) (hown : OwnG cs e k w w0.heap.size v l) (hm : SlG cs w P cap m) (hP : P = none → cap = 0) (hl : (l.length + n) * bytes ≤ 140737488355328) (hlb : l.length + n ≤ 9223372036854775807) (hx0 : Ext w0 w)
    (h : ∀ v' w', OwnG cs e k w' w0.heap.size v' (l ++ m) → Ext w0 w' → w.grownBy w' v.ownBlock → K (a.put o.dst v') w') : if Region.wanted o (yielded ops a.tmps) = true then Oper.wp Tryd.prog o a w K Q else F := by
  rw [if_pos (by simp [Region.wanted, hgd])]
  subst hn
  obtain ⟨v', w', hr, h1, h2, h3⟩ := hown.append E o.type hm hP hl hlb hx0.size
  exact wp_append_at s x t ho v _ hs hx hr (h v' w' h1 (below_ext hx0 h3 (Nat.le_refl _)) h2)
/-- an append of a list to a new empty row, at a step of a region that draws -/
theorem step_app_freshG (w0 : World) (E : ElemG cs t e k bytes) (hgd : o.guard = none) (s x : Operand) (ho : o.op = .call { callee := .builtin .append, args := #[s, x], argTypes := #[t, t] }) (B : Nat) (m : List α) (n : Nat) (P : Option Addr) (cap : Nat)
    (hs : a.eval s = .slice (some ⟨B, 0, none⟩) 0 0) (hx : a.eval x = .slice P n cap) (hn : m.length = n) (hB : w.heap[B]? = some (.cells #[] e (0, 0))) (hbB : w0.heap.size ≤ B) (hm : SlG cs w P cap m) (hP : P = none → cap = 0) (hl : n * bytes ≤ 140737488355328) (hlb : n ≤ 9223372036854775807) (hx0 : Ext w0 w)
    (h : ∀ v' w', OwnG cs e k w' w0.heap.size v' m → Ext w0 w' → w.grownBy w' (some B) → K (a.put o.dst v') w') : if Region.wanted o (yielded ops a.tmps) = true then Oper.wp Tryd.prog o a w K Q else F :=
  step_app_G w0 E hgd s x ho _ [] m n P cap hs hx hn (own0G hB hbB) hm hP (by simpa using hl) (by simpa using hlb) hx0 (fun v' w' h1 h2 h3 => h v' w' (by simpa using h1) h2 h3)
theorem SlG.block1 (hk : ∀ x, (cs x).length = k) {g : Nat} (x : α) {C : Array Value} (hC : C = (cs x).toArray) (h : w.heap[g]? = some (.cells C e (0, 0))) : SlG cs w (some ⟨g, 0, none⟩) 1 [x] := by
  subst hC
  refine ⟨fun i y hi => ⟨g, 0, rfl, fun j u hj => ?_⟩, by simp, by omega⟩
  match i, hi with
  | 0, hi =>
    simp at hi
    subst hi
    rw [show (0 : Nat) + 0 * (cs x).length + j = j from by omega]
    unfold World.cell?
    simp only [h]
    simpa using hj
  | i + 1, hi => simp at hi
theorem SlG.takes {P : Option Addr} {c : Nat} {l : List α} (h : SlG cs w P c l) (n : Nat) : SlG cs w P c (l.take n) := by
  have := h.le
  refine ⟨fun i x hi => ?_, by rw [List.length_take]; omega, h.cap⟩
  refine h.at_ i x ?_
  rw [List.getElem?_take] at hi
  split at hi
  · exact hi
  · cases hi
theorem SlG.drops (hk : ∀ x, (cs x).length = k) {b off c : Nat} {l : List α} (h : SlG cs w (some ⟨b, off, none⟩) c l) (n : Nat) (hn : n ≤ l.length) : SlG cs w (some ⟨b, off + n * k, none⟩) (c - n) (l.drop n) := by
  have := h.le
  have := h.cap
  refine ⟨fun i x hi => ⟨b, off + n * k, rfl, fun j v hj => ?_⟩, by rw [List.length_drop]; omega, by omega⟩
  rw [List.getElem?_drop] at hi
  obtain ⟨b', off', e, hc⟩ := h.at_ (n + i) x hi
  simp only [Option.some.injEq, Addr.mk.injEq, and_true] at e
  obtain ⟨rfl, rfl⟩ := e
  have := hc j v hj
  rw [hk] at this ⊢
  rw [← this, Nat.add_mul]
  congr 2
  omega
theorem SlG.from (hk : ∀ x, (cs x).length = k) {b off c : Nat} {l : List α} (h : SlG cs w (some ⟨b, off, none⟩) c l) (p : Nat) (hp : p ≤ l.length) : SlG cs w (some ⟨b, if c = p then off else off + p * k, none⟩) (c - p) (l.drop p) := by
  by_cases hc : c = p
  · rw [if_pos hc]
    have h1 := h.le
    have h2 : l.drop p = [] := List.drop_eq_nil_iff.2 (by omega)
    rw [h2]
    exact ⟨fun i x hi => by simp at hi, by simp, by omega⟩
  · rw [if_neg hc]; exact h.drops hk p hp
end
/-- a slice from p on, wherever it lies -/
theorem slice_fromG (b off len c p k : Nat) (hp : p ≤ len) (hc : len ≤ c) (T : TypeId) (hT : Tryd.prog.underlying T = some (.slice (Tryd.prog.elem T))) (hs : (Tryd.prog.info? (Tryd.prog.elem T)).map (·.size) = some k) :
    ∀ w, (Instr.slice T (.slice (some ⟨b, off, none⟩) len c) (some (.int .i64 p)) none none).run Tryd.prog w = .ok (.slice (some ⟨b, if c = p then off else off + p * k, none⟩) (len - p) (c - p)) w := by
  intro w
  rw [run_slice_l (w := w) T (some ⟨b, off, none⟩) len c hT .i64 p (by omega) (by omega)]
  cases hq : Tryd.prog.info? (Tryd.prog.elem T) with
  | none => simp [hq] at hs
  | some i =>
    have hi : i.size = k := by simpa [hq] using hs
    simp [sizeOf, typeInfo, hq, hi, sliced, Result.andThen]
    by_cases h : c = p
    · simp [h]
    · simp [h, Go.WideShapes.add_plain]
end
section
open Go.RowKit
set_option linter.unusedVariables false
set_option maxRecDepth 20000
set_option linter.unusedSimpArgs false
set_option linter.unusedSectionVars false
set_option maxRecDepth 20000
attribute [local go_sem] Oper.semAt_some

theorem valB_kind {v : Vl} (h : valB v = true) : v.1 = 1 ∨ v.1 = 2 := by
  unfold valB at h
  split at h
  · exact .inl (by assumption)
  · exact .inr (of_decide_eq_true h).1
/-- two boxes were made, then the world grew: what they hold -/
theorem boxes2 {w w1 : World} {A B : Array Value} {t u : TypeId} (hx : Ext ((w.alloc (.cells A t)).alloc (.cells B u)) w1) :
    (∀ i v, A[i]? = some v → w1.cell? ⟨w.heap.size, i, none⟩ = some v) ∧ (∀ i v, B[i]? = some v → w1.cell? ⟨w.heap.size + 1, i, none⟩ = some v) :=
  ⟨fun i v h => hx.cell ((World.cell?_alloc2_first A t _ i).trans h), fun i v h => hx.cell ((World.cell?_alloc2_new _ B u i).trans h)⟩
theorem box1 {w w1 : World} {A : Array Value} {t : TypeId} (hx : Ext (w.alloc (.cells A t)) w1) :
    ∀ i v, A[i]? = some v → w1.cell? ⟨w.heap.size, i, none⟩ = some v := fun i v h => hx.cell ((World.cell?_alloc_mark _ _ _ _ i).trans h)
end
section
open Go.RowKit
set_option linter.unusedVariables false
set_option maxRecDepth 20000
set_option linter.unusedSimpArgs false
set_option linter.unusedSectionVars false
set_option maxRecDepth 20000
attribute [local go_sem] Oper.semAt_some

/-- a slice of rows -/
abbrev Rw := Option Addr × Nat × List Vl
def Rw.cells (x : Rw) : List Value := [.slice x.1 x.2.2.length x.2.1]
def nthRw (l : List Rw) (i : Nat) : Rw := l.getD i (none, 0, [])
theorem nthRw_some {l : List Rw} {i : Nat} (h : i < l.length) : l[i]? = some (nthRw l i) := by simp [nthRw, List.getD_eq_getElem?_getD, h]
theorem rowAt {w : World} {P : Option Addr} {cap : Nat} {l : List Rw} (h : SlG Rw.cells w P cap l) (i : Nat) (hi : i < l.length) :
    ∃ b off, P = some ⟨b, off, none⟩ ∧ w.cell? ⟨b, off + i, none⟩ = some (.slice (nthRw l i).1 (nthRw l i).2.2.length (nthRw l i).2.1) := by
  obtain ⟨b, off, e, h1⟩ := h.at_ i _ (nthRw_some hi)
  refine ⟨b, off, e, ?_⟩
  have := h1 0 _ rfl
  simpa [Rw.cells] using this


set_option maxHeartbeats 4000000 in
theorem lrows_any (P : Option Addr) (cap : Nat) (L : List Rw) (w : World) (h : SlG Rw.cells w P cap L) (hr : ∀ x ∈ L, SlV w x.1 x.2.1 x.2.2) :
    Calls Tryd.prog 5 #[.slice P L.length cap] w fun e w' => (∃ r : Bool, e = .returned (.bool r)) ∧ w' = w := by
  have hlen := h.len
  go_enter Tryd.func5, Tryd.ntmps5
  go_wp2
  go_loopw [3, 4] (fun i _ wr => ∃ k : Nat, k ≤ L.length ∧ i = .int .i64 k ∧ wr = w) (fun i _ _ => L.length - (intOf i).toNat)
  case atStart => exact ⟨0, by omega, rfl, rfl⟩
  case round =>
    obtain ⟨k, hk, rfl, rfl⟩ := hrel
    by_cases hlt : k < L.length
    · obtain ⟨b, off, hP, g0⟩ := rowAt h k hlt
      have hx := hr _ (List.mem_of_getElem? (nthRw_some hlt))
      subst hP
      have c1 : (k : Int) < L.length := by omega
      have d1 : IntKind.i64.wrap ((k : Int) + 1) = (k : Int) + 1 := IntWalk.i64_in _ ⟨by omega, by omega⟩
      generalize nthRw L k = R at *
      obtain ⟨Q, c, l⟩ := R
      simp only at g0 hx
      have hlen2 := hx.len
      by_cases h20 : (20 : Int) < (l.length : Int)
      · go_wp2
        go_ret
        exact ⟨⟨_, rfl⟩, rfl⟩
      · have h20' : decide ((20 : Int) < (l.length : Int)) = false := decide_eq_false h20
        obtain ⟨wo, hwo⟩ : ∃ wo : World, wo = wr := ⟨_, rfl⟩
        go_wp2
        go_loopw [4] (fun j wr2 => ∃ m : Nat, m ≤ l.length ∧ j = .int .i64 m ∧ wr2 = wr) (fun j _ => l.length - (intOf j).toNat)
        case atStart => exact ⟨0, by omega, rfl, rfl⟩
        case round =>
          obtain ⟨m, hm, rfl, rfl⟩ := hrel
          by_cases hml : m < l.length
          · obtain ⟨b2, off2, hQ, q0, q1, q2⟩ := hx.valAt m hml
            subst hQ
            have c2 : (m : Int) < l.length := by omega
            have d2 : IntKind.i64.wrap ((m : Int) + 1) = (m : Int) + 1 := IntWalk.i64_in _ ⟨by omega, by omega⟩
            by_cases h200 : (200 : Int) < ((nthV l m).2.2.size : Int)
            · generalize nthV l m = y at *
              go_wp2
              go_ret
              exact ⟨⟨_, rfl⟩, rfl⟩
            · have h200' : decide ((200 : Int) < ((nthV l m).2.2.size : Int)) = false := decide_eq_false h200
              generalize nthV l m = y at *
              clear h200
              go_wp2
              go_roundw
              case rel => exact ⟨m + 1, by omega, by go_num, by first | trivial | rfl⟩
              case measure => simp [intOf]; omega
          · obtain rfl : m = l.length := by omega
            go_wp2
            go_roundw
            case rel => exact ⟨k + 1, by omega, by go_num, by first | trivial | rfl⟩
            case measure => simp [intOf]; omega
    · obtain rfl : k = L.length := by omega
      go_wp2
      go_ret
      exact ⟨⟨_, rfl⟩, rfl⟩
end
section
open Go.RowKit
set_option linter.unusedVariables false
set_option maxRecDepth 20000
set_option linter.unusedSimpArgs false
set_option linter.unusedSectionVars false
set_option maxRecDepth 100000
attribute [local go_sem] Oper.semAt_some

/-- block B holds the values C, all of them free to be written -/
def BoxN (W : World) (B : Nat) (t : TypeId) (C : Array Value) : Prop := W.heap[B]? = some (.cells C t (0, 0))
theorem BoxN.lt {W : World} {B : Nat} {t : TypeId} {C : Array Value} (h : BoxN W B t C) : B < W.heap.size := (Array.getElem?_eq_some_iff.1 h).1
theorem BoxN.cell {W : World} {B : Nat} {t : TypeId} {C : Array Value} (h : BoxN W B t C) {i : Nat} {v : Value} (hv : C[i]? = some v) : W.cell? ⟨B, i, none⟩ = some v := by
  unfold World.cell?
  simp only [show W.heap[B]? = _ from h]
  exact hv
theorem BoxN.frozen {W : World} {B : Nat} {t : TypeId} {C : Array Value} (h : BoxN W B t C) (i : Nat) : W.frozen? ⟨B, i, none⟩ = false := by
  unfold World.frozen?
  simp only [show W.heap[B]? = _ from h]
  simp
theorem BoxN.new (W : World) (t : TypeId) (C : Array Value) : BoxN (W.alloc (.cells C t)) W.heap.size t C := World.alloc_heap_new W _
theorem BoxN.ext {W W' : World} {B : Nat} {t : TypeId} {C : Array Value} (h : BoxN W B t C) (hx : Ext W W') : BoxN W' B t C := hx.heap h
theorem BoxN.set {W : World} {B : Nat} {t : TypeId} {C : Array Value} (h : BoxN W B t C) (i : Nat) (v : Value) : BoxN (W.setCell ⟨B, i, none⟩ v) B t (C.setIfInBounds i v) := by
  obtain ⟨hlt, hk⟩ := Array.getElem?_eq_some_iff.1 h
  show (W.heap.modify B _)[B]? = _
  rw [Array.getElem?_eq_getElem (by rw [Array.size_modify]; exact hlt), Array.getElem_modify_self, hk]
  rfl
end
section
open Go.RowKit
set_option linter.unusedVariables false
set_option maxRecDepth 20000
set_option linter.unusedSimpArgs false
set_option linter.unusedSectionVars false
set_option maxRecDepth 100000

/-- an entry: its row and its key -/
abbrev Hd := List Vl × Int
/-- an entry as it lies: where its row is, its key -/
abbrev HdR := Rw × Int
/-- a bucket as it lies: where its entries are, these, the next bucket -/
abbrev BkR := (Option Addr × Nat × List HdR) × Int
def csHd (x : HdR) : List Value := [.slice x.1.1 x.1.2.2.length x.1.2.1, .int .i64 x.2]
def csBk (x : BkR) : List Value := [.slice x.1.1 x.1.2.2.length x.1.2.1, .int .i64 x.2]
def hdA (x : HdR) : Hd := (x.1.2.2, x.2)
def bkA (x : BkR) : Bkt Hd := (x.1.2.2.map hdA, x.2)
theorem elemHd : ElemG csHd 32 36 2 32 where
  ht := Tryd.underlying32
  info := by
    have h : (Tryd.prog.info? 36).map (fun i => (i.zero, i.size, i.bytes)) = some (some (.agg #[.slice none 0 0, .int .i64 0]), 2, 32) := by kernel_rfl
    cases hq : Tryd.prog.info? 36 with
    | none => simp [hq] at h
    | some i => simp [hq] at h; exact ⟨i, _, rfl, h.1, h.2.1, h.2.2, rfl⟩
  k0 := by omega
  hk := fun _ => rfl
  one := fun x u hu => by
    simp [csHd] at hu
    rcases hu with rfl | rfl <;> rfl
theorem elemBk : ElemG csBk 31 34 2 32 where
  ht := Tryd.underlying31
  info := by
    have h : (Tryd.prog.info? 34).map (fun i => (i.zero, i.size, i.bytes)) = some (some (.agg #[.slice none 0 0, .int .i64 0]), 2, 32) := by kernel_rfl
    cases hq : Tryd.prog.info? 34 with
    | none => simp [hq] at h
    | some i => simp [hq] at h; exact ⟨i, _, rfl, h.1, h.2.1, h.2.2, rfl⟩
  k0 := by omega
  hk := fun _ => rfl
  one := fun x u hu => by
    simp [csBk] at hu
    rcases hu with rfl | rfl <;> rfl
/-- a list of entries, read -/
structure SlH (w : World) (P : Option Addr) (c : Nat) (l : List HdR) : Prop where
  sl : SlG csHd w P c l
  nil : P = none → c = 0
  row : ∀ x ∈ l, SlV w x.1.1 x.1.2.1 x.1.2.2 ∧ (x.1.1 = none → x.1.2.1 = 0)
/-- a list of buckets, read -/
structure SlB (w : World) (P : Option Addr) (c : Nat) (l : List BkR) : Prop where
  sl : SlG csBk w P c l
  nil : P = none → c = 0
  ent : ∀ x ∈ l, SlH w x.1.1 x.1.2.1 x.1.2.2
theorem SlH.ext {w w' : World} {P : Option Addr} {c : Nat} {l : List HdR} (h : SlH w P c l) (hx : Ext w w') : SlH w' P c l := ⟨h.sl.ext hx, h.nil, fun x hm => ⟨(h.row x hm).1.ext hx, (h.row x hm).2⟩⟩
theorem SlB.ext {w w' : World} {P : Option Addr} {c : Nat} {l : List BkR} (h : SlB w P c l) (hx : Ext w w') : SlB w' P c l := ⟨h.sl.ext hx, h.nil, fun x hm => (h.ent x hm).ext hx⟩
theorem SlH.nil_ (w : World) : SlH w none 0 [] := ⟨SlG.nil _ _, fun _ => rfl, fun x h => by simp at h⟩
theorem SlB.nil_ (w : World) : SlB w none 0 [] := ⟨SlG.nil _ _, fun _ => rfl, fun x h => by simp at h⟩
def nthH (l : List HdR) (i : Nat) : HdR := l.getD i ((none, 0, []), 0)
def nthBk (l : List BkR) (i : Nat) : BkR := l.getD i ((none, 0, []), -1)
theorem nthH_some {l : List HdR} {i : Nat} (h : i < l.length) : l[i]? = some (nthH l i) := by simp [nthH, List.getD_eq_getElem?_getD, h]
theorem nthBk_some {l : List BkR} {i : Nat} (h : i < l.length) : l[i]? = some (nthBk l i) := by simp [nthBk, List.getD_eq_getElem?_getD, h]
theorem nthH_mem {l : List HdR} {i : Nat} (h : i < l.length) : nthH l i ∈ l := List.mem_of_getElem? (nthH_some h)
theorem nthBk_mem {l : List BkR} {i : Nat} (h : i < l.length) : nthBk l i ∈ l := List.mem_of_getElem? (nthBk_some h)
theorem SlH.at_ {w : World} {P : Option Addr} {c : Nat} {l : List HdR} (h : SlH w P c l) (i : Nat) (hi : i < l.length) :
    ∃ b off, P = some ⟨b, off, none⟩ ∧ w.cell? ⟨b, off + i * 2, none⟩ = some (.slice (nthH l i).1.1 (nthH l i).1.2.2.length (nthH l i).1.2.1) ∧ w.cell? ⟨b, off + i * 2 + 1, none⟩ = some (.int .i64 (nthH l i).2) := by
  obtain ⟨b, off, e, h1⟩ := h.sl.at_ i _ (nthH_some hi)
  exact ⟨b, off, e, h1 0 _ rfl, h1 1 _ rfl⟩
theorem SlB.at_ {w : World} {P : Option Addr} {c : Nat} {l : List BkR} (h : SlB w P c l) (i : Nat) (hi : i < l.length) :
    ∃ b off, P = some ⟨b, off, none⟩ ∧ w.cell? ⟨b, off + i * 2, none⟩ = some (.slice (nthBk l i).1.1 (nthBk l i).1.2.2.length (nthBk l i).1.2.1) ∧ w.cell? ⟨b, off + i * 2 + 1, none⟩ = some (.int .i64 (nthBk l i).2) := by
  obtain ⟨b, off, e, h1⟩ := h.sl.at_ i _ (nthBk_some hi)
  exact ⟨b, off, e, h1 0 _ rfl, h1 1 _ rfl⟩
/-- the buckets of a list, as the plain law tells them -/
def absT (l : List BkR) : List (Bkt Hd) := l.map bkA
theorem absT_len (l : List BkR) : (absT l).length = l.length := by simp [absT]
theorem absT_some {l : List BkR} {i : Nat} (h : i < l.length) : (absT l)[i]? = some (bkA (nthBk l i)) := by
  unfold absT
  rw [List.getElem?_map, nthBk_some h]; rfl
theorem absT_bkt {l : List BkR} {i : Nat} (h : i < l.length) : bkt (absT l) i = bkA (nthBk l i) := bkt_of (absT_some h)
/-- the raw entries of a path's buckets -/
def entR (l : List BkR) (p : List Nat) : List HdR := p.flatMap fun b => (nthBk l b).1.2.2
theorem entR_abs {l : List BkR} {p : List Nat} (h : ∀ b ∈ p, b < l.length) : (entR l p).map hdA = entF (absT l) p := by
  unfold entR entF
  induction p with
  | nil => rfl
  | cons b p ih =>
    rw [List.flatMap_cons, List.flatMap_cons, List.map_append, ih fun b hb => h b (by simp [hb])]
    congr 1
    have := absT_bkt (h b (by simp))
    unfold bkt at this
    rw [this]; rfl
theorem way_lt {α : Type} {T : List (Bkt α)} : ∀ {n : Int} {p : List Nat}, Way T n p → ∀ b ∈ p, b < T.length
  | _, [], _, b, hb => by simp at hb
  | _, c :: p, h, b, hb => by
    obtain ⟨_, x, hx, hp⟩ := h
    rcases List.mem_cons.1 hb with rfl | hb
    · exact (List.getElem?_eq_some_iff.1 hx).1
    · exact way_lt hp b hb
/-- what stands behind the places of a way -/
def stepF (p : List Nat) (i : Nat) : Int := match p[i]? with
  | some b => (b : Int)
  | none => -1
theorem stepF_in {p : List Nat} {i : Nat} (h : i < p.length) : stepF p i = (p.getD i 0 : Nat) := by
  unfold stepF
  rw [some_getD h]
theorem stepF_end {p : List Nat} {i : Nat} (h : p.length ≤ i) : stepF p i = -1 := by
  unfold stepF
  rw [List.getElem?_eq_none h]
theorem way_first {α : Type} {T : List (Bkt α)} {n : Int} {p : List Nat} (h : Way T n p) : n = stepF p 0 := by
  cases p with
  | nil => exact h
  | cons b p => exact h.1
theorem way_step {α : Type} {T : List (Bkt α)} : ∀ {n : Int} {p : List Nat}, Way T n p → ∀ i, i < p.length → (bkt T (p.getD i 0)).2 = stepF p (i + 1)
  | _, [], _, i, hi => by simp at hi
  | _, c :: p, h, 0, hi => by
    obtain ⟨_, x, hx, hp⟩ := h
    show (bkt T c).2 = stepF p 0
    rw [bkt_of hx]
    exact way_first hp
  | _, c :: p, h, i + 1, hi => by
    obtain ⟨_, x, hx, hp⟩ := h
    have := way_step hp i (by simpa using hi)
    simpa [stepF] using this
end
section
open Go.RowKit
set_option linter.unusedVariables false
set_option maxRecDepth 20000
set_option linter.unusedSimpArgs false
set_option linter.unusedSectionVars false
set_option maxRecDepth 100000
attribute [local go_sem] Oper.semAt_some

def keyB (n : Int) : Bool := decide (1 ≤ n ∧ n ≤ 1000000)
def rightB (h r : Int) : Bool := decide (1 ≤ h ∧ h ≤ 100 ∧ 1 ≤ r ∧ r ≤ 20)
theorem rkey_any (n : Int) (w : World) : Calls Tryd.prog 50 #[.int .i64 n] w fun e w' => e = .returned (.bool (keyB n)) ∧ w = w' := by
  by_cases h0 : 1 ≤ n
  case neg =>
    have g0 : decide (1 ≤ n) = false := decide_eq_false h0
    have hB : keyB n = false := decide_eq_false (by omega)
    rw [hB]
    clear hB
    go_enter Tryd.func50, Tryd.ntmps50
    go_wp2
    go_ret
    exact ⟨by first | rfl | (simp; done) | (simp; omega), rfl⟩
  by_cases h1 : n ≤ 1000000
  case neg =>
    have g1 : decide (n ≤ 1000000) = false := decide_eq_false h1
    have hB : keyB n = false := decide_eq_false (by omega)
    rw [hB]
    clear hB
    go_enter Tryd.func50, Tryd.ntmps50
    go_wp2
    go_ret
    exact ⟨by first | rfl | (simp; done) | (simp; omega), rfl⟩
  have hB : keyB n = true := decide_eq_true (by omega)
  rw [hB]
  clear hB
  go_enter Tryd.func50, Tryd.ntmps50
  go_wp2
  go_ret
  exact ⟨by first | rfl | (simp; done) | (simp; omega), rfl⟩
theorem key_any (n : Int) (w : World) : Calls Tryd.prog 27 #[.int .i64 n] w fun e w' => e = .returned (.bool (keyB n)) ∧ w = w' := by
  by_cases h0 : 1 ≤ n
  case neg =>
    have g0 : decide (1 ≤ n) = false := decide_eq_false h0
    have hB : keyB n = false := decide_eq_false (by omega)
    rw [hB]
    clear hB
    go_enter Tryd.func27, Tryd.ntmps27
    go_wp2
    go_ret
    exact ⟨by first | rfl | (simp; done) | (simp; omega), rfl⟩
  by_cases h1 : n ≤ 1000000
  case neg =>
    have g1 : decide (n ≤ 1000000) = false := decide_eq_false h1
    have hB : keyB n = false := decide_eq_false (by omega)
    rw [hB]
    clear hB
    go_enter Tryd.func27, Tryd.ntmps27
    go_wp2
    go_ret
    exact ⟨by first | rfl | (simp; done) | (simp; omega), rfl⟩
  have hB : keyB n = true := decide_eq_true (by omega)
  rw [hB]
  clear hB
  go_enter Tryd.func27, Tryd.ntmps27
  go_wp2
  go_ret
  exact ⟨by first | rfl | (simp; done) | (simp; omega), rfl⟩
theorem right_any (h r : Int) (w : World) : Calls Tryd.prog 28 #[.int .i64 h, .int .i64 r] w fun e w' => e = .returned (.bool (rightB h r)) ∧ w = w' := by
  by_cases h0 : 1 ≤ h
  case neg =>
    have g0 : decide (1 ≤ h) = false := decide_eq_false h0
    have hB : rightB h r = false := decide_eq_false (by omega)
    rw [hB]
    clear hB
    go_enter Tryd.func28, Tryd.ntmps28
    go_wp2
    go_ret
    exact ⟨by first | rfl | (simp; done) | (simp; omega), rfl⟩
  by_cases h1 : h ≤ 100
  case neg =>
    have g1 : decide (h ≤ 100) = false := decide_eq_false h1
    have hB : rightB h r = false := decide_eq_false (by omega)
    rw [hB]
    clear hB
    go_enter Tryd.func28, Tryd.ntmps28
    go_wp2
    go_ret
    exact ⟨by first | rfl | (simp; done) | (simp; omega), rfl⟩
  by_cases h2 : 1 ≤ r
  case neg =>
    have g2 : decide (1 ≤ r) = false := decide_eq_false h2
    have hB : rightB h r = false := decide_eq_false (by omega)
    rw [hB]
    clear hB
    go_enter Tryd.func28, Tryd.ntmps28
    go_wp2
    go_ret
    exact ⟨by first | rfl | (simp; done) | (simp; omega), rfl⟩
  by_cases h3 : r ≤ 20
  case neg =>
    have g3 : decide (r ≤ 20) = false := decide_eq_false h3
    have hB : rightB h r = false := decide_eq_false (by omega)
    rw [hB]
    clear hB
    go_enter Tryd.func28, Tryd.ntmps28
    go_wp2
    go_ret
    exact ⟨by first | rfl | (simp; done) | (simp; omega), rfl⟩
  have hB : rightB h r = true := decide_eq_true (by omega)
  rw [hB]
  clear hB
  go_enter Tryd.func28, Tryd.ntmps28
  go_wp2
  go_ret
  exact ⟨by first | rfl | (simp; done) | (simp; omega), rfl⟩
theorem sized_any (h r : Int) (w : World) : Calls Tryd.prog 25 #[.int .i64 h, .int .i64 r] w fun e w' => e = .returned (.bool (rightB h r)) ∧ w = w' := by
  by_cases h0 : 1 ≤ h
  case neg =>
    have g0 : decide (1 ≤ h) = false := decide_eq_false h0
    have hB : rightB h r = false := decide_eq_false (by omega)
    rw [hB]
    clear hB
    go_enter Tryd.func25, Tryd.ntmps25
    go_wp2
    go_ret
    exact ⟨by first | rfl | (simp; done) | (simp; omega), rfl⟩
  by_cases h1 : h ≤ 100
  case neg =>
    have g1 : decide (h ≤ 100) = false := decide_eq_false h1
    have hB : rightB h r = false := decide_eq_false (by omega)
    rw [hB]
    clear hB
    go_enter Tryd.func25, Tryd.ntmps25
    go_wp2
    go_ret
    exact ⟨by first | rfl | (simp; done) | (simp; omega), rfl⟩
  by_cases h2 : 1 ≤ r
  case neg =>
    have g2 : decide (1 ≤ r) = false := decide_eq_false h2
    have hB : rightB h r = false := decide_eq_false (by omega)
    rw [hB]
    clear hB
    go_enter Tryd.func25, Tryd.ntmps25
    go_wp2
    go_ret
    exact ⟨by first | rfl | (simp; done) | (simp; omega), rfl⟩
  by_cases h3 : r ≤ 20
  case neg =>
    have g3 : decide (r ≤ 20) = false := decide_eq_false h3
    have hB : rightB h r = false := decide_eq_false (by omega)
    rw [hB]
    clear hB
    go_enter Tryd.func25, Tryd.ntmps25
    go_wp2
    go_ret
    exact ⟨by first | rfl | (simp; done) | (simp; omega), rfl⟩
  have hB : rightB h r = true := decide_eq_true (by omega)
  rw [hB]
  clear hB
  go_enter Tryd.func25, Tryd.ntmps25
  go_wp2
  go_ret
  exact ⟨by first | rfl | (simp; done) | (simp; omega), rfl⟩
end
section
open Go.RowKit
set_option linter.unusedVariables false
set_option maxRecDepth 20000
set_option linter.unusedSimpArgs false
set_option linter.unusedSectionVars false
set_option maxRecDepth 100000
attribute [local go_sem] Oper.semAt_some

def ints (p : List Nat) : List Int := p.map fun b : Nat => (b : Int)
theorem ints_len (p : List Nat) : (ints p).length = p.length := by simp [ints]
theorem ints_get (p : List Nat) (i : Nat) (hi : i < p.length) : (ints p).getD i 0 = (p.getD i 0 : Nat) := by simp [ints, List.getD_eq_getElem?_getD, hi]
theorem ints_take (p : List Nat) (i : Nat) : (ints p).take i = ints (p.take i) := by simp [ints]
theorem take_snoc {p : List Nat} {j : Nat} (h : j < p.length) : p.take (j + 1) = p.take j ++ [p.getD j 0] := by
  rw [List.take_add_one]
  congr 1
  simp [List.getD_eq_getElem?_getD, h]
theorem ints_snoc {p : List Nat} {j : Nat} (h : j < p.length) : ints (p.take (j + 1)) = ints (p.take j) ++ [((p.getD j 0 : Nat) : Int)] := by
  rw [take_snoc h]
  simp [ints]
/-- a struct of three cells in a new block -/
theorem box3 {w w1 : World} {t : TypeId} (x y z : Value) (hx : Ext (w.alloc (.cells #[x, y, z] t)) w1) :
    w1.cell? ⟨w.heap.size, 0, none⟩ = some x ∧ w1.cell? ⟨w.heap.size, 1, none⟩ = some y ∧ w1.cell? ⟨w.heap.size, 2, none⟩ = some z := by
  have hb := hx.heap (World.alloc_heap_new w (.cells #[x, y, z] t))
  exact ⟨by simp [World.cell?, hb], by simp [World.cell?, hb], by simp [World.cell?, hb]⟩
theorem OwnG.lower {α : Type} {cs : α → List Value} {e : TypeId} {k : Nat} {w : World} {base base' : Nat} {v : Value} {l : List α} (h : OwnG cs e k w base v l) (hb : base' ≤ base) : OwnG cs e k w base' v l := by
  refine ⟨h.1, ?_⟩
  rcases h.2 with h0 | ⟨g, cap, cur, hv, hg, rest⟩
  · exact .inl h0
  · exact .inr ⟨g, cap, cur, hv, Nat.le_trans hb hg, rest⟩
def Tb (h r : Int) (P : Option Addr) (n c : Nat) : Value := .agg #[.int .i64 h, .int .i64 r, .slice P n c]


theorem OwnG.read {α : Type} {cs : α → List Value} {t e : TypeId} {k bytes : Nat} (E : ElemG cs t e k bytes) {w : World} {base : Nat} {v : Value} {l : List α} (h : OwnG cs e k w base v l) (hl : l.length ≤ 9223372036854775807) :
    ∃ P cap, v = .slice P l.length cap ∧ SlG cs w P cap l ∧ (P = none → cap = 0) := by
  obtain ⟨P, cap, e1, hs⟩ := h.slG E hl
  refine ⟨P, cap, e1, hs, fun hP => ?_⟩
  subst hP
  rcases h.2 with ⟨h0, _⟩ | ⟨g, c, cur, hv, _⟩
  · rw [e1] at h0
    injection h0
  · rw [e1] at hv
    injection hv with h1
    cases h1
theorem SlH.of_own {w : World} {base : Nat} {v : Value} {l : List HdR} (h : OwnG csHd 36 2 w base v l) (hl : l.length ≤ 100000) (hr : ∀ x ∈ l, SlV w x.1.1 x.1.2.1 x.1.2.2 ∧ (x.1.1 = none → x.1.2.1 = 0)) : ∃ P c, v = .slice P l.length c ∧ SlH w P c l := by
  obtain ⟨P, c, e, hs, hn⟩ := h.read elemHd (by omega)
  exact ⟨P, c, e, hs, hn, hr⟩
theorem SlB.rows {w : World} {P : Option Addr} {c : Nat} {l : List BkR} (h : SlB w P c l) {p : List Nat} (hp : ∀ b ∈ p, b < l.length) : ∀ x ∈ entR l p, SlV w x.1.1 x.1.2.1 x.1.2.2 ∧ (x.1.1 = none → x.1.2.1 = 0) := by
  intro x hx
  obtain ⟨b, hb, hx⟩ := List.mem_flatMap.1 hx
  exact (h.ent _ (nthBk_mem (hp b hb))).row x hx
theorem entR_snoc (l : List BkR) {p : List Nat} {j : Nat} (h : j < p.length) : entR l (p.take (j + 1)) = entR l (p.take j) ++ (nthBk l (p.getD j 0)).1.2.2 := by
  unfold entR
  rw [take_snoc h, List.flatMap_append]
  simp
theorem entR_le (l : List BkR) (p : List Nat) (j : Nat) : (entR l (p.take j)).length ≤ (entR l p).length := by
  unfold entR
  conv => rhs; rw [← List.take_append_drop j p, List.flatMap_append, List.length_append]
  omega
end
section
open Go.RowKit
set_option linter.unusedVariables false
set_option maxRecDepth 20000
set_option linter.unusedSimpArgs false
set_option linter.unusedSectionVars false
set_option maxRecDepth 100000
attribute [local go_sem] Oper.semAt_some

theorem BoxN.far {W : World} {B : Nat} {t : TypeId} {C : Array Value} (h : BoxN W B t C) {p : Addr} (hp : B ≠ p.block) (v : Value) : BoxN (W.setCell p v) B t C := (Below.heap_setCell W p v B hp).trans h
theorem led_no {l : List BkR} {n : Nat} (h : ∀ q, q < l.length → (nthBk l q).2 ≠ (n : Int)) : ledB (absT l) n = false := by
  cases hb : ledB (absT l) n with
  | false => rfl
  | true =>
    obtain ⟨b, x, hx, e⟩ := ledB_true.1 hb
    have hlt := (List.getElem?_eq_some_iff.1 hx).1
    rw [absT_len] at hlt
    rw [absT_some hlt] at hx
    obtain rfl := Option.some.inj hx
    exact absurd e (h b hlt)
theorem led_yes {l : List BkR} {n q : Nat} (hq : q < l.length) (h : (nthBk l q).2 = (n : Int)) : ledB (absT l) n = true := ledB_true.2 ⟨q, _, absT_some hq, h⟩


/-- how many entries the first buckets hold -/
def cntK (l : List BkR) (j : Nat) : Nat := cntT (absT (l.take j))
theorem cntK_succ {l : List BkR} {j : Nat} (h : j < l.length) : cntK l (j + 1) = cntK l j + (nthBk l j).1.2.2.length := by
  have e : l.take (j + 1) = l.take j ++ [nthBk l j] := by
    rw [List.take_add_one, nthBk_some h]; rfl
  unfold cntK
  rw [e]
  simp [cntT, absT, bkA]
theorem cntK_all (l : List BkR) : cntK l l.length = cntT (absT l) := by
  unfold cntK
  rw [List.take_length]
theorem cntK_le (l : List BkR) (j : Nat) : cntK l j ≤ cntT (absT l) := by
  unfold cntK cntT absT
  conv => rhs; rw [← List.take_append_drop j l, List.map_append, List.map_append, List.sum_append]
  omega
/-- a table of the program, to be read -/
structure CtR (w : World) (t : Nat) (h r : Int) (P : Option Addr) (c : Nat) (l : List BkR) : Prop where
  box : BoxN w t 69 #[.int .i64 h, .int .i64 r, .slice P l.length c]
  sl : SlB w P c l
theorem CtR.ext {w w' : World} {t : Nat} {h r : Int} {P : Option Addr} {c : Nat} {l : List BkR} (H : CtR w t h r P c l) (hx : Ext w w') : CtR w' t h r P c l := ⟨H.box.ext hx, H.sl.ext hx⟩
set_option maxHeartbeats 4000000 in
theorem count_any (t : Nat) (h r : Int) (P : Option Addr) (c : Nat) (l : List BkR) (w : World) (H : CtR w t h r P c l) (hc : cntT (absT l) ≤ 100000) :
    Calls Tryd.prog 39 #[.pointer (some ⟨t, 0, none⟩)] w fun e w' => e = .returned (.int .i64 (cntT (absT l))) ∧ Ext w w' := by
  have hlen := H.sl.sl.len
  have y2 := H.box.cell (i := 2) rfl
  have HC := Lib.hid hc
  rw [← cntK_all]
  have hs := H.sl
  clear hc H
  go_enter Tryd.func39, Tryd.ntmps39
  go_wp2
  go_loopw [13, 3, 5] (fun i v _ wr => ∃ j : Nat, j ≤ l.length ∧ i = .int .i64 j ∧ v = .int .i64 (cntK l j) ∧ Ext w wr) (fun i _ _ _ => l.length - (intOf i).toNat)
  case atStart => exact ⟨0, by omega, rfl, rfl, Ext.refl _⟩
  case round =>
    obtain ⟨j, hj, rfl, rfl, hx⟩ := hrel
    by_cases hlt : j < l.length
    · have cj : (j : Int) < l.length := by omega
      have d1 : IntKind.i64.wrap ((j : Int) + 1) = (j : Int) + 1 := IntWalk.i64_in _ ⟨by omega, by omega⟩
      obtain ⟨b, off, hP, g0, g1⟩ := (hs.ext hx).at_ j hlt
      subst hP
      have HS := Lib.hid (cntK_succ hlt)
      have h1 := cntK_le l (j + 1)
      have h2 := HC.out
      have hb1 : cntK l j ≤ 100000 := by have := cntK_succ hlt; omega
      have hb2 : (nthBk l j).1.2.2.length ≤ 100000 := by have := cntK_succ hlt; omega
      clear h1 h2 y2
      generalize hg : (nthBk l j).1.2.2.length = x at *
      have HG := Lib.hid hg
      clear hg
      generalize hk : cntK l j = y at *
      have HK := Lib.hid hk
      clear hk
      generalize nthBk l j = B at *
      obtain ⟨⟨Pe, ce, le⟩, nx⟩ := B
      simp only at g0 g1
      go_wp2
      go_roundw
      case rel => exact ⟨j + 1, by omega, by go_num, by rw [HS.out]; go_num, hx.alloc _⟩
      case measure => simp [intOf]; omega
    · obtain rfl : j = l.length := by omega
      go_wp2
      go_ret
      exact ⟨rfl, hx⟩
end
end Go.Proofs.YtcbinafokhekmaaDoor
