/- Rows of cells of the call's own: copies, appends, insertions of one cell. -/
import Derived.Test.YtgdbhmdhonnmgaaDoorRange
import Derived.Laws.OwnMore
import Derived.Deep.RegionLaw
import Derived.Lib.AppendZerosOnto
import Derived.Lib.Overlaps
import Derived.Laws.Externs
import Derived.Maps.AppendAt
namespace Go.Proofs.YtgdbhmdhonnmgaaDoor
open Go.RowKit
set_option linter.unusedVariables false
set_option maxRecDepth 20000

theorem rowExt {A B : World} {base : Nat} {e : TypeId} {size : Nat} {v : Value} {n : Nat} {xs : List Value} (h : A.ownsRow base e size v n xs) (hx : Ext A B) : B.ownsRow base e size v n xs := by
  refine ⟨h.1, ?_⟩
  rcases h.2 with h0 | ⟨g, cap, cur, hv, hb, hg, rest⟩
  · exact .inl h0
  · exact .inr ⟨g, cap, cur, hv, hb, hx.heap hg, rest⟩
theorem rowUpd {A B : World} {base : Nat} {e : TypeId} {size : Nat} {v : Value} {n : Nat} {xs : List Value} {k : Nat} (h : A.ownsRow base e size v n xs) (hx : Upd A k B) (hk : k < base) : B.ownsRow base e size v n xs := by
  refine ⟨h.1, ?_⟩
  rcases h.2 with h0 | ⟨g, cap, cur, hv, hb, hg, rest⟩
  · exact .inl h0
  · exact .inr ⟨g, cap, cur, hv, hb, hx.heap hg (by omega), rest⟩
theorem rowBase {A : World} {base base' : Nat} {e : TypeId} {size : Nat} {v : Value} {n : Nat} {xs : List Value} (h : A.ownsRow base e size v n xs) (hb' : base' ≤ base) : A.ownsRow base' e size v n xs := by
  refine ⟨h.1, ?_⟩
  rcases h.2 with h0 | ⟨g, cap, cur, hv, hb, rest⟩
  · exact .inl h0
  · exact .inr ⟨g, cap, cur, hv, by omega, rest⟩

theorem cell_one {w : World} (a : Addr) (x : Value) (hx : w.cell? a = some x) (hs : a.spot = none) : ∀ j u, [x][j]? = some u → w.cell? (a.add j) = some u := by
  intro j u hj
  cases j with
  | zero =>
    simp at hj
    subst hj
    have : a.add 0 = a := by obtain ⟨b, o, s⟩ := a; subst hs; rfl
    rw [this]; exact hx
  | succ j => simp at hj
theorem one_at {w : World} {b : Nat} {c : Value} {t : TypeId} (h : w.heap[b]? = some (.cells #[c] t (0, 0))) : w.cell? ⟨b, 0, none⟩ = some c := by simp [World.cell?, h]
/-- copy of elements of k cells into a block that is known whole -/
theorem run_copy_k {P : Program} (w : World) (dT sT ty elem : TypeId) (k g o dLen dCap : Nat) (a : Addr) (sLen sCap : Nat) (cur : Array Value) (t : TypeId) (cs : List Value)
    (hu : P.underlying dT = some (.slice elem)) (hs : (P.info? elem).map (·.size) = some k)
    (hg : w.heap[g]? = some (.cells cur t (0, 0))) (hn : cs.length = Nat.min sLen dLen * k)
    (hsrc : ∀ j v, cs[j]? = some v → w.cell? (a.add j) = some v) (hfit : o + cs.length ≤ cur.size) (h1 : ∀ v ∈ cs, v.oneCell' = true) :
    (Builtin.copy_ #[dT, sT] ty #[.slice (some ⟨g, o, none⟩) dLen dCap, .slice (some a) sLen sCap]).run P w =
      .ok (goInt (Nat.min sLen dLen)) (w.setRow g (cur.toList.take o ++ cs ++ cur.toList.drop (o + cs.length)).toArray) := by
  have hl := run_loadCells_list (P := P) w a cs hsrc
  have hst := run_storeCells_at P g o t cs 0 cur w hg (by simpa using hfit) h1
  cases hq : P.info? elem with
  | none => simp [hq] at hs
  | some i =>
    have hi : i.size = k := by simpa [hq] using hs
    simp only [Nat.add_zero] at hst
    simp [Builtin.copy_, run_underlying hu, Builtin.lenOf, Builtin.firstCells, sizeOf, typeInfo, hq, hi, ← hn, hl, hst]

section
variable {P : Program} {w : World} {ops : Array Oper} {rest : List Oper} {o : Oper} {a : Act} {K : Act → World → Prop} {Q : Exit → Act → World → Prop} {E : Prop}
theorem wp_copy_at (d s : Operand) (t t' : TypeId) (ho : o.op = .call { callee := .builtin .copy, args := #[d, s], argTypes := #[t, t'] }) (v u : Value) (hd : a.eval d = v) (hs : a.eval s = u) {v' : Value} {w' : World}
    (hr : (Builtin.copy_ #[t, t'] o.type #[v, u]).run P w = .ok v' w') (h : K (a.put o.dst v') w') : o.wp P a w K Q := by
  unfold Oper.wp execOp
  simp only [ho, resolve, invoke, builtin, Sem.run_bind, Sem.run_pure, Result.andThen_ok, List.map_toArray, List.map_cons, List.map_nil, hd, hs, hr]
  exact h
theorem wpList_copy_at (hgd : o.guard = none) (d s : Operand) (t t' : TypeId) (ho : o.op = .call { callee := .builtin .copy, args := #[d, s], argTypes := #[t, t'] }) (v u : Value) (hd : a.eval d = v) (hs : a.eval s = u) {v' : Value} {w' : World}
    (hr : (Builtin.copy_ #[t, t'] o.type #[v, u]).run P w = .ok v' w') (h : wpList P ops Q rest (a.put o.dst v') w') : wpList P ops Q (o :: rest) a w :=
  wpList_plain hgd fun _ hK => wp_copy_at d s t t' ho v u hd hs hr (hK _ _ h)
theorem step_copy_at (hgd : o.guard = none) (d s : Operand) (t t' : TypeId) (ho : o.op = .call { callee := .builtin .copy, args := #[d, s], argTypes := #[t, t'] }) (v u : Value) (hd : a.eval d = v) (hs : a.eval s = u) {v' : Value} {w' : World}
    (hr : (Builtin.copy_ #[t, t'] o.type #[v, u]).run P w = .ok v' w') (h : K (a.put o.dst v') w') : if Region.wanted o (yielded ops a.tmps) = true then Oper.wp P o a w K Q else E := by
  rw [if_pos (by simp [Region.wanted, hgd])]
  exact wp_copy_at d s t t' ho v u hd hs hr h
end

theorem shape_of {w : World} {g : Nat} {cur : Array Value} {e : TypeId} (h : w.heap[g]? = some (.cells cur e (0, 0))) : w.shape? g = some (e, cur.size) := by
  simp [World.shape?, h]
/-- the two copies of an insertion in place, as lists -/
theorem shifted1 (cur : List Value) (L : List Value) (i : Nat) (c : Value) (hi : i ≤ L.length) (hl : L.length + 1 ≤ cur.length) (ht : cur.take L.length = L) :
    ∃ R, ((cur.take (i + 1) ++ L.drop i ++ cur.drop (i + 1 + (L.drop i).length)).take i ++ [c] ++
      (cur.take (i + 1) ++ L.drop i ++ cur.drop (i + 1 + (L.drop i).length)).drop (i + 1)) = (L.take i ++ c :: L.drop i) ++ R ∧ ((L.take i ++ c :: L.drop i) ++ R).length = cur.length := by
  have h1 : cur.take i = L.take i := by
    conv => rhs; rw [← ht]
    rw [List.take_take]
    congr 1
    omega
  have hd : (L.drop i).length = L.length - i := List.length_drop
  have hlt : (cur.take (i + 1)).length = i + 1 := by rw [List.length_take]; omega
  have e1 : (cur.take (i + 1) ++ L.drop i ++ cur.drop (i + 1 + (L.drop i).length)).take i = L.take i := by
    rw [List.append_assoc, List.take_append_of_le_length (by omega), List.take_take, Nat.min_eq_left (by omega), h1]
  have e2 : (cur.take (i + 1) ++ L.drop i ++ cur.drop (i + 1 + (L.drop i).length)).drop (i + 1) = L.drop i ++ cur.drop (i + 1 + (L.drop i).length) := by
    rw [List.append_assoc]
    exact List.drop_left' (by omega)
  refine ⟨cur.drop (i + 1 + (L.drop i).length), ?_, ?_⟩
  · rw [e1, e2]
    simp only [List.append_assoc, List.cons_append, List.nil_append]
  · simp only [List.length_append, List.length_drop, List.length_take, List.length_cons]
    omega
/-- the two copies of an insertion into a new block, as lists -/
theorem regrown1 (X : List Value) (L : List Value) (i : Nat) (c : Value) (hi : i ≤ L.length) (hl : L.length + 1 ≤ X.length) (ht : X.take i = L.take i) (Y : List Value) (hY : Y = X.take i ++ [c] ++ X.drop (i + 1)) :
    ∃ R, Y.take (i + 1) ++ L.drop i ++ Y.drop (i + 1 + (L.drop i).length) = (L.take i ++ c :: L.drop i) ++ R ∧ ((L.take i ++ c :: L.drop i) ++ R).length = X.length ∧ Y.length = X.length := by
  have hti : (L.take i).length = i := by rw [List.length_take]; omega
  have hd : (L.drop i).length = L.length - i := List.length_drop
  have e1 : Y.take (i + 1) = L.take i ++ [c] := by
    rw [hY, ht]
    exact List.take_left' (by simp [hti])
  have hYl : Y.length = X.length := by
    rw [hY, ht]
    simp only [List.length_append, hti, List.length_drop, List.length_cons, List.length_nil]
    omega
  refine ⟨Y.drop (i + 1 + (L.drop i).length), ?_, ?_, hYl⟩
  · rw [e1]; simp
  · simp only [List.length_append, List.length_drop, hd, hti, hYl, List.length_cons]
    omega
end Go.Proofs.YtgdbhmdhonnmgaaDoor
