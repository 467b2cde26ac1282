/- Maps of the call's own that serve as sets: a key is looked up, a key is stored. -/
import Derived.Test.YtpobjheodlkkiaaGreatDoorBase
import Derived.Maps.OwnSet
namespace Go.Proofs.YtpobjheodlkkiaaGreatDoor
open Go.RowKit Go.Maps
set_option linter.unusedVariables false
set_option maxRecDepth 20000

/-- block b is a map of bools in which just the keys l are true, and no others are -/
def MetG {α : Type} [DecidableEq α] (mk : α → Lit) (P : Program) (k e : TypeId) (w : World) (b : Nat) (l : List α) : Prop :=
  ∃ (D : DataW Unit) (n : Nat), n ≤ l.length ∧ w.ownsMap P k (plainElem P e) b n D ∧ (∀ x, has D (mk x) = decide (x ∈ l)) ∧ (∀ x, x ∈ l → ∀ z, D.atKey (mk x) z = .lit (.bool true)) ∧ (l.Nodup → size D = l.length)
section
variable {α : Type} [DecidableEq α] {mk : α → Lit} {P : Program} {k e : TypeId} {w : World} {b : Nat} {l : List α}
theorem MetG.made (w : World) : MetG mk P k e (w.alloc (.map #[] 0)) w.heap.size [] :=
  ⟨.map [], 0, by simp, World.ownsMap_made _ _ _ _, fun x => by simp [has], fun x h => by simp at h, fun _ => rfl⟩
theorem MetG.lt (h : MetG mk P k e w b l) : b < w.heap.size := by obtain ⟨D, n, _, h, _⟩ := h; exact h.lt
theorem MetG.kept {w' : World} {row : Option Nat} (h : MetG mk P k e w b l) (hg : w.grownBy w' row) (hne : some b ≠ row) : MetG mk P k e w' b l := by
  obtain ⟨D, n, hn, h, r⟩ := h
  exact ⟨D, n, hn, h.kept hg hne, r⟩
theorem MetG.same {w' : World} (h : MetG mk P k e w b l) (he : w'.heap[b]? = w.heap[b]?) : MetG mk P k e w' b l := by
  obtain ⟨D, n, hn, ⟨es, clock, hb, r'⟩, r⟩ := h
  exact ⟨D, n, hn, ⟨es, clock, he.trans hb, r'⟩, r⟩
theorem MetG.ext {w' : World} (h : MetG mk P k e w b l) (he : Ext w w') : MetG mk P k e w' b l := h.same (he.block h.lt)

theorem MetG.look (h : MetG mk P k e w b l) (K : Keyed P k) {t : TypeId} (ht : P.underlying t = some (.map k e)) (he : P.underlying e = some .bool) (hz : (zeroValue e).run P w = .ok (.bool false) w) {key : Value} {x : α} (hkey : keyOf P k key = some (mk x)) :
    (Instr.lookup t (.map (some b)) key false).run P w = .ok (.bool (decide (x ∈ l))) w := by
  obtain ⟨D, n, hn, hown, hh, ht', hs⟩ := h
  obtain ⟨v, ps, hrun, hv⟩ := hown.lookup K ht hz (plainElem_bool he false) hkey
  have hd : D.atKey (mk x) (.lit (.bool false)) = .lit (.bool (decide (x ∈ l))) := by
    by_cases hx : x ∈ l
    · rw [ht' x hx, decide_eq_true hx]
    · rw [atKey_of_not_has (by rw [hh x, decide_eq_false hx]), decide_eq_false hx]
  rw [hd] at hv
  unfold plainElem at hv
  rw [he] at hv
  cases v <;> simp at hv
  rw [hrun, hv.1]
theorem MetG.len (h : MetG mk P k e w b l) {t : TypeId} (ht : P.underlying t = some (.map k e)) (hl : l.Nodup) (ty : TypeId) : (Builtin.len_ #[t] ty #[.map (some b)]).run P w = .ok (.int .i64 l.length) w := by
  obtain ⟨D, n, hn, hown, hh, ht', hs⟩ := h
  rw [hown.len ht ty, hs hl]
theorem MetG.store (h : MetG mk P k e w b l) (K : Keyed P k) {t : TypeId} (ht : P.underlying t = some (.map k e)) (he : P.underlying e = some .bool) (hn : l.length < 9223372036854775807) (hm : ∀ x y, mk x = mk y → x = y) {key : Value} {x : α} (hk : WideAt.IsKeyLit (mk x)) (hkey : keyOf P k key = some (mk x)) :
    ∃ w', (Instr.mapUpdate t (.map (some b)) key (.bool true)).run P w = .ok () w' ∧ MetG mk P k e w' b (l ++ [x]) ∧ w.grownBy w' (some b) := by
  obtain ⟨D, n, hnl, hown, hh, ht', hs⟩ := h
  have hT := hown.tidy K
  obtain ⟨w', hrun, hown', hg⟩ := hown.update K ht (Nat.lt_of_le_of_lt hnl hn) hkey (plainElem_bool he true)
  refine ⟨w', hrun, ⟨_, n + 1, by simp; omega, hown', fun y => ?_, fun y hy z => ?_, fun hd => ?_⟩, hg⟩
  · by_cases hy : y = x
    · subst hy; rw [has_put_same hT.isMap hk]; simp
    · rw [has_put_other (fun e => hy (hm _ _ e)), hh]; simp [hy]
  · by_cases hyx : y = x
    · subst hyx; exact atKey_put_same hT.isMap hk _ _
    · rw [atKey_put_other (fun e => hyx (hm _ _ e))]
      exact ht' y (by simpa [hyx] using hy) z
  · have hd' := List.nodup_append.1 hd
    have hx : x ∉ l := fun hx => hd'.2.2 x hx x (by simp) rfl
    rw [size_put hT, hh, decide_eq_false hx, hs hd'.1]
    simp
/-- the look-up at the operation -/
theorem wpList_look_met {w : World} {ops : Array Oper} {rest : List Oper} {o : Oper} {a : Act} {Q : Exit → Act → World → Prop} (hg : o.guard = none) (m x : Operand) (t : TypeId) (hop : o.op = Op.lookup t m x false)
    {b : Nat} {l : List α} (hM : MetG mk P k e w b l) (K : Keyed P k) (ht : P.underlying t = some (.map k e)) (he : P.underlying e = some .bool) (hz : ∀ w, (zeroValue e).run P w = .ok (.bool false) w) (hm : a.eval m = .map (some b)) (key : Value) (y : α) (hx : a.eval x = key) (hkey : keyOf P k key = some (mk y))
    (r : Bool) (hr : decide (y ∈ l) = r) (hK : wpList P ops Q rest (a.put o.dst (.bool r)) w) : wpList P ops Q (o :: rest) a w := by
  refine wpList_plain hg fun K' hK' => ?_
  have hrun := hM.look K ht he (hz w) hkey
  rw [hr] at hrun
  unfold Oper.wp
  simp [execOp, hop, hm, hx, hrun, Result.andThen]
  exact hK' _ _ hK
/-- the store at the operation -/
theorem wpList_store_met {w : World} {ops : Array Oper} {rest : List Oper} {o : Oper} {a : Act} {Q : Exit → Act → World → Prop} (hg : o.guard = none) (m x v : Operand) (t : TypeId) (hop : o.op = Op.mapUpdate t m x v)
    {b : Nat} {l : List α} (hM : MetG mk P k e w b l) (K : Keyed P k) (ht : P.underlying t = some (.map k e)) (he : P.underlying e = some .bool) (hn : l.length < 9223372036854775807) (hinj : ∀ x y, mk x = mk y → x = y) (hm : a.eval m = .map (some b)) (key : Value) (y : α) (hx : a.eval x = key) (hv : a.eval v = .bool true) (hk : WideAt.IsKeyLit (mk y)) (hkey : keyOf P k key = some (mk y))
    (hK : ∀ w', MetG mk P k e w' b (l ++ [y]) → w.grownBy w' (some b) → wpList P ops Q rest (a.put o.dst undef) w') : wpList P ops Q (o :: rest) a w := by
  refine wpList_plain hg fun K' hK' => ?_
  obtain ⟨w', hrun, h1, h2⟩ := hM.store K ht he hn hinj hk hkey
  unfold Oper.wp
  simp [execOp, hop, hm, hx, hv, hrun, Result.andThen]
  exact hK' _ _ (hK w' h1 h2)
end
end Go.Proofs.YtpobjheodlkkiaaGreatDoor
