/- Slices whose elements take some cells each: read; of the call's own, appended to, stored into. -/
import Derived.Test.YtepgpejdnlejnaaDoorQ10
import Derived.Test.YtepgpejdnlejnaaDoorQ00
import Derived.Lib.AppendZeros
import Derived.Lib.SliceRun
import Derived.Laws.OwnMore
namespace Go.Proofs.YtepgpejdnlejnaaDoor
open Go.RowKit
set_option linter.unusedVariables false
set_option linter.unusedSimpArgs false
set_option linter.unusedSectionVars false
set_option maxRecDepth 20000

section
variable {α : Type} {cs : α → List Value} {t e : TypeId} {k bytes : Nat} {w : World} {base : Nat}
end
section
variable {α : Type} {cs : α → List Value} {t e : TypeId} {k bytes : Nat} {w : World} {base : Nat} {ops : Array Oper} {rest : List Oper} {o : Oper} {a : Act} {Q : Exit → Act → World → Prop}
end
theorem SlG.ge0 {α : Type} {cs : α → List Value} {w : World} {P : Option Addr} {cap : Nat} {l : List α} (h : SlG cs w P cap l) (hl : 0 < l.length) (hk : ∀ x, 0 < (cs x).length) : P = none → False := by
  intro e
  obtain ⟨b, off, e2, _⟩ := h.at_ 0 _ (List.getElem?_eq_getElem hl)
  rw [e] at e2; cases e2
/-- numbers -/
abbrev SlI := @SlG Int (fun x => [.int .i64 x])
theorem SlG.intAt {w : World} {P : Option Addr} {cap : Nat} {l : List Int} (h : SlI w P cap l) (i : Nat) (hi : i < l.length) :
    ∃ b off, P = some ⟨b, off, none⟩ ∧ w.cell? ⟨b, off + i, none⟩ = some (.int .i64 (l.getD i 0)) := by
  obtain ⟨b, off, e, h1⟩ := h.at_ i (l.getD i 0) (by simp [List.getD_eq_getElem?_getD, hi])
  exact ⟨b, off, e, by have := h1 0 _ rfl; simpa using this⟩
theorem elemI : ElemG (fun x : Int => [.int .i64 x]) 96 3 1 8 where
  ht := Tryd.underlying96
  info := by
    have h : (Tryd.prog.info? 3).map (fun i => (i.zero, i.size, i.bytes)) = some (some (.int .i64 0), 1, 8) := by kernel_rfl
    cases hq : Tryd.prog.info? 3 with
    | none => simp [hq] at h
    | some i => simp [hq] at h; exact ⟨i, _, rfl, h.1, h.2.1, h.2.2, rfl⟩
  k0 := by omega
  hk := fun _ => rfl
  one := fun x u hu => by
    simp at hu
    subst hu; rfl
theorem OwnG.cell1 {α : Type} {cs : α → List Value} {e : TypeId} (hk : ∀ x, (cs x).length = 1) {w : World} {base g n cap : Nat} {l : List α} (h : OwnG cs e 1 w base (.slice (some ⟨g, 0, none⟩) n cap) l) (hn : n = l.length) (i : Nat) (x : α) (u : Value) (hi : l[i]? = some x) (hu : cs x = [u]) : w.cell? ⟨g, i, none⟩ = some u := by
  have := h.cell hk hn i x hi 0 u (by rw [hu]; rfl)
  simpa using this
theorem OwnG.set1 {α : Type} {cs : α → List Value} {e : TypeId} (hk : ∀ x, (cs x).length = 1) {w : World} {base g n cap : Nat} {l : List α} (h : OwnG cs e 1 w base (.slice (some ⟨g, 0, none⟩) n cap) l) (hn : n = l.length) (i : Nat) (x y : α) (u : Value) (hi : l[i]? = some x) (hy : cs y = [u]) :
    OwnG cs e 1 (w.setCell ⟨g, i, none⟩ u) base (.slice (some ⟨g, 0, none⟩) n cap) (l.set i y) := by
  have := h.setCell hk hn i 0 x y u hi (by
    have := hk x
    cases hx : cs x with
    | nil => rw [hx] at this; simp at this
    | cons a b =>
      rw [hx] at this
      cases b with
      | nil => rw [hy]; rfl
      | cons c d => simp at this) (by omega)
  simpa using this
theorem int_zero : ∃ i, Tryd.prog.info? 3 = some i ∧ i.zero = some (.int .i64 0) ∧ i.size = 1 ∧ i.bytes = 8 := by
  have h : (Tryd.prog.info? 3).map (fun i => (i.zero, i.size, i.bytes)) = some (some (.int .i64 0), 1, 8) := by kernel_rfl
  cases hq : Tryd.prog.info? 3 with
  | none => simp [hq] at h
  | some i => simp [hq] at h; exact ⟨i, rfl, h.1, h.2.1, h.2.2⟩
/-- make([]T, n) for elements of one cell -/
theorem wpList_make_G {α : Type} {cs : α → List Value} {t e : TypeId} {bytes : Nat} {w : World} {ops : Array Oper} {rest : List Oper} {o : Oper} {a : Act} {Q : Exit → Act → World → Prop} (z0 : α) {z : Value} (ht : Tryd.prog.underlying t = some (.slice e)) (hi : ∃ i, Tryd.prog.info? e = some i ∧ i.zero = some z ∧ i.size = 1 ∧ i.bytes = bytes) (hz0 : cs z0 = [z]) (hzc : z.cells = #[z])
    (hgd : o.guard = none) (lo co : Operand) (ho : o.op = .makeSlice t lo co) (n : Nat) (hl : a.eval lo = .int .i64 n) (hc : a.eval co = .int .i64 n) (hb : bytes * n ≤ 281474976710656) (hm : n ≤ 9223372036854775807)
    (h : ∀ w', OwnG cs e 1 w' w.heap.size (.slice (some ⟨w.heap.size, 0, none⟩) n n) (List.replicate n z0) → Ext w w' → wpList Tryd.prog ops Q rest (a.put o.dst (.slice (some ⟨w.heap.size, 0, none⟩) n n)) w') : wpList Tryd.prog ops Q (o :: rest) a w := by
  obtain ⟨i, h1, h2, h3, h4⟩ := hi
  obtain ⟨w', hr, ho', hg⟩ := run_make_full w w.heap.size t e i z 1 ht h1 h2 h3 .i64 .i64 n (by rw [h4]; exact hb) (by unfold maxLen; omega) (Nat.le_refl _)
  refine wpList_plain hgd fun K hK => ?_
  unfold Oper.wp
  simp only [execOp, ho, hl, hc, Sem.run_bind, hr, Result.andThen_ok, Sem.run_pure]
  rw [Oper.upon_value]
  refine hK _ _ (h w' ?_ (Below.grown (Below.refl _ _) hg (Nat.le_refl _) (fun k hk => by cases hk)))
  unfold OwnG
  rw [List.length_replicate, show (List.replicate n z0).flatMap cs = (madeCells z.cells (n * 1)).toList from by
    rw [hzc, Nat.mul_one, toList_madeCells_one]
    clear h hr ho' hm hb hl hc
    induction n with
    | zero => rfl
    | succ n ih => rw [List.replicate_succ, List.flatMap_cons, ih, hz0, List.replicate_succ]; rfl]
  exact ho'
abbrev OwnI (w : World) (base : Nat) (v : Value) (l : List Int) : Prop := OwnG (fun x : Int => [.int .i64 x]) 3 1 w base v l
end Go.Proofs.YtepgpejdnlejnaaDoor
