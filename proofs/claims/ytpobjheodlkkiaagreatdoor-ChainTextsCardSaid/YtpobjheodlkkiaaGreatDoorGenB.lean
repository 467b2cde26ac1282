/- Appends of a list of elements at a step of a region that draws; parts of slices. -/
import Derived.Test.YtpobjheodlkkiaaGreatDoorGen
import Derived.Test.YtpobjheodlkkiaaGreatDoorRange
import Derived.Deep.RegionHeld3
namespace Go.Proofs.YtpobjheodlkkiaaGreatDoor
open Go.RowKit
set_option linter.unusedVariables false
set_option maxRecDepth 20000
set_option linter.unusedSimpArgs false
set_option linter.unusedSectionVars false
set_option maxRecDepth 20000

theorem alloc_at (W : World) (o : Obj) (E : Nat) (h : W.heap.size = E) : (W.alloc o).heap[E]? = some o := by subst h; exact World.alloc_heap_new _ _
theorem grown_heap {w w' : World} {row : Option Nat} (h : w.grownBy w' row) {N : Nat} {o : Obj} (hN : w.heap[N]? = some o) (hne : row ≠ some N) : w'.heap[N]? = some o :=
  (h.block N (Array.getElem?_eq_some_iff.1 hN).1 (fun e => hne e.symm)).trans hN
/-- an empty row -/
theorem own0G {α : Type} {cs : α → List Value} {e : TypeId} {k : Nat} {W : World} {base E : Nat} (hE : W.heap[E]? = some (.cells #[] e (0, 0))) (hb : base ≤ E) : OwnG cs e k W base (.slice (some ⟨E, 0, none⟩) 0 0) [] :=
  ⟨by simp, .inr ⟨E, 0, #[], rfl, hb, hE, by simp, by simp [maxLen], by simp, by simp⟩⟩
section
variable {α : Type} {cs : α → List Value} {t e : TypeId} {k bytes : Nat} {w : World} {ops : Array Oper} {o : Oper} {a : Act} {K : Act → World → Prop} {Q : Exit → Act → World → Prop} {F : Prop}
/-- an append of a list, at a step of a region that draws -/
theorem step_app_G (w0 : World) (E : ElemG cs t e k bytes) (hgd : o.guard = none) (s x : Operand) (ho : o.op = .call { callee := .builtin .append, args := #[s, x], argTypes := #[t, t] }) (v : Value) (l m : List α) (n : Nat) (P : Option Addr) (cap : Nat)
    (hs : a.eval s = v) (hx : a.eval x = .slice P n cap) (hn : m.length = n) (hown : OwnG cs e k w w0.heap.size v l) (hm : SlG cs w P cap m) (hP : P = none → cap = 0) (hl : (l.length + n) * bytes ≤ 140737488355328) (hlb : l.length + n ≤ 9223372036854775807) (hx0 : Ext w0 w)
    (h : ∀ v' w', OwnG cs e k w' w0.heap.size v' (l ++ m) → Ext w0 w' → w.grownBy w' v.ownBlock → K (a.put o.dst v') w') : if Region.wanted o (yielded ops a.tmps) = true then Oper.wp Tryz.prog o a w K Q else F := by
  rw [if_pos (by simp [Region.wanted, hgd])]
  subst hn
  obtain ⟨v', w', hr, h1, h2, h3⟩ := hown.append E o.type hm hP hl hlb hx0.size
  exact wp_append_at s x t ho v _ hs hx hr (h v' w' h1 (below_ext hx0 h3 (Nat.le_refl _)) h2)
/-- an append of a list to a new empty row, at a step of a region that draws -/
theorem step_app_freshG (w0 : World) (E : ElemG cs t e k bytes) (hgd : o.guard = none) (s x : Operand) (ho : o.op = .call { callee := .builtin .append, args := #[s, x], argTypes := #[t, t] }) (B : Nat) (m : List α) (n : Nat) (P : Option Addr) (cap : Nat)
    (hs : a.eval s = .slice (some ⟨B, 0, none⟩) 0 0) (hx : a.eval x = .slice P n cap) (hn : m.length = n) (hB : w.heap[B]? = some (.cells #[] e (0, 0))) (hbB : w0.heap.size ≤ B) (hm : SlG cs w P cap m) (hP : P = none → cap = 0) (hl : n * bytes ≤ 140737488355328) (hlb : n ≤ 9223372036854775807) (hx0 : Ext w0 w)
    (h : ∀ v' w', OwnG cs e k w' w0.heap.size v' m → Ext w0 w' → w.grownBy w' (some B) → K (a.put o.dst v') w') : if Region.wanted o (yielded ops a.tmps) = true then Oper.wp Tryz.prog o a w K Q else F :=
  step_app_G w0 E hgd s x ho _ [] m n P cap hs hx hn (own0G hB hbB) hm hP (by simpa using hl) (by simpa using hlb) hx0 (fun v' w' h1 h2 h3 => h v' w' (by simpa using h1) h2 h3)
theorem SlG.block1 (hk : ∀ x, (cs x).length = k) {g : Nat} (x : α) {C : Array Value} (hC : C = (cs x).toArray) (h : w.heap[g]? = some (.cells C e (0, 0))) : SlG cs w (some ⟨g, 0, none⟩) 1 [x] := by
  subst hC
  refine ⟨fun i y hi => ⟨g, 0, rfl, fun j u hj => ?_⟩, by simp, by omega⟩
  match i, hi with
  | 0, hi =>
    simp at hi
    subst hi
    rw [show (0 : Nat) + 0 * (cs x).length + j = j from by omega]
    unfold World.cell?
    simp only [h]
    simpa using hj
  | i + 1, hi => simp at hi
theorem SlG.takes {P : Option Addr} {c : Nat} {l : List α} (h : SlG cs w P c l) (n : Nat) : SlG cs w P c (l.take n) := by
  have := h.le
  refine ⟨fun i x hi => ?_, by rw [List.length_take]; omega, h.cap⟩
  refine h.at_ i x ?_
  rw [List.getElem?_take] at hi
  split at hi
  · exact hi
  · cases hi
theorem SlG.drops (hk : ∀ x, (cs x).length = k) {b off c : Nat} {l : List α} (h : SlG cs w (some ⟨b, off, none⟩) c l) (n : Nat) (hn : n ≤ l.length) : SlG cs w (some ⟨b, off + n * k, none⟩) (c - n) (l.drop n) := by
  have := h.le
  have := h.cap
  refine ⟨fun i x hi => ⟨b, off + n * k, rfl, fun j v hj => ?_⟩, by rw [List.length_drop]; omega, by omega⟩
  rw [List.getElem?_drop] at hi
  obtain ⟨b', off', e, hc⟩ := h.at_ (n + i) x hi
  simp only [Option.some.injEq, Addr.mk.injEq, and_true] at e
  obtain ⟨rfl, rfl⟩ := e
  have := hc j v hj
  rw [hk] at this ⊢
  rw [← this, Nat.add_mul]
  congr 2
  omega
theorem SlG.from (hk : ∀ x, (cs x).length = k) {b off c : Nat} {l : List α} (h : SlG cs w (some ⟨b, off, none⟩) c l) (p : Nat) (hp : p ≤ l.length) : SlG cs w (some ⟨b, if c = p then off else off + p * k, none⟩) (c - p) (l.drop p) := by
  by_cases hc : c = p
  · rw [if_pos hc]
    have h1 := h.le
    have h2 : l.drop p = [] := List.drop_eq_nil_iff.2 (by omega)
    rw [h2]
    exact ⟨fun i x hi => by simp at hi, by simp, by omega⟩
  · rw [if_neg hc]; exact h.drops hk p hp
end
/-- a slice from p on, wherever it lies -/
theorem slice_fromG (b off len c p k : Nat) (hp : p ≤ len) (hc : len ≤ c) (T : TypeId) (hT : Tryz.prog.underlying T = some (.slice (Tryz.prog.elem T))) (hs : (Tryz.prog.info? (Tryz.prog.elem T)).map (·.size) = some k) :
    ∀ w, (Instr.slice T (.slice (some ⟨b, off, none⟩) len c) (some (.int .i64 p)) none none).run Tryz.prog w = .ok (.slice (some ⟨b, if c = p then off else off + p * k, none⟩) (len - p) (c - p)) w := by
  intro w
  rw [run_slice_l (w := w) T (some ⟨b, off, none⟩) len c hT .i64 p (by omega) (by omega)]
  cases hq : Tryz.prog.info? (Tryz.prog.elem T) with
  | none => simp [hq] at hs
  | some i =>
    have hi : i.size = k := by simpa [hq] using hs
    simp [sizeOf, typeInfo, hq, hi, sliced, Result.andThen]
    by_cases h : c = p
    · simp [h]
    · simp [h, Go.WideShapes.add_plain]
end Go.Proofs.YtpobjheodlkkiaaGreatDoor
