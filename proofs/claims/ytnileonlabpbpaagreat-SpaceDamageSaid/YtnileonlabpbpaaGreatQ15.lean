/- SpO; Gen; SpQ; SpR (merged by group.py) -/
import Derived.Test.YtnileonlabpbpaaGreatQ14
import Derived.Test.YtnileonlabpbpaaGreatQ10
import Derived.Test.YtnileonlabpbpaaGreatQ00
import Derived.Lib.AppendZeros
import Derived.Lib.SliceRun
import Derived.Laws.OwnMore
namespace Go.Proofs.YtnileonlabpbpaaGreat
section
open Go.RowKit
set_option linter.unusedVariables false
set_option linter.unusedSimpArgs false
set_option linter.unusedSectionVars false

/-- what is told of a changed page: it is a page of the size, and all other lines are as they were -/
def PgOk (p : ByteArray) (x : Int) (r : ByteArray × Int) : Prop :=
  r.2 = 0 → ValidR r.1 ∧ r.1.size = p.size ∧ ∀ i q, i ≠ x → GetR (cel p) (cnt p) i q → GetR (cel r.1) (cnt r.1) i q
theorem PgOk.no {p : ByteArray} {x : Int} {r : ByteArray × Int} (h : r.2 ≠ 0) : PgOk p x r := fun e => absurd e h
section
variable (p : ByteArray) (x : Int) (s : ByteArray) (hv : ValidR p) (h0 : -9223372036854775808 ≤ x) (h1 : x ≤ 9223372036854775807)
include hv h0 h1
theorem putAt_pg (hs2 : s.size ≤ 140737488355328) : ∃ r : ByteArray × Int, Both2 52 83 #[.string p, .int .i64 x, .string s] r ∧ PgOk p x r := by
  by_cases hs : s.toList = []
  · exact ⟨(⟨#[]⟩, 1), ⟨fun w => putAt_empty p x s w hs, fun w => refPutAt_empty p x s w hv hs⟩, PgOk.no (by decide)⟩
  have hs0 : 0 < s.size := by have h := hs; rw [toList_nil] at h; omega
  cases hl : lineB x with
  | false => exact ⟨(⟨#[]⟩, 7), ⟨fun w => putAt_line p x s w hv h0 h1 hl hs, fun w => refPutAt_line p x s w hv h0 h1 hl hs⟩, PgOk.no (by decide)⟩
  | true =>
    have hx : 1 ≤ x ∧ x ≤ 200 := by simp [lineB] at hl; omega
    have hG := cel_good hv
    obtain ⟨pos, hp⟩ := pos_of hG x
    by_cases he : pos < cnt p ∧ (cel p pos).1 = x
    · exact ⟨(⟨#[]⟩, 6), ⟨fun w => putAt_hit p x s w hv hx pos hp hs he, fun w => refPutAt_hit p x s w hv hx pos hp hs he⟩, PgOk.no (by decide)⟩
    · refine ⟨_, ⟨fun w => put_new p x s w hv hs0 hs2 hx pos hp he, fun w => refPutAt_miss p x s w hv hx pos hp hs hs2 he⟩, fun h => ?_⟩
      obtain ⟨e1, e2, e3, e4⟩ := filled_valid p.size (cnt p + 1) _ (ins_good hG hp hx he s hs0) hv.1.1 h
      exact ⟨e2, e1, fun i r hne hr => by rw [e3]; exact getR_congr (getR_ins hr hne hp.le) (fun k hk => (e4 k hk).symm)⟩
theorem set_pg (hs2 : s.size ≤ 140737488355328) : ∃ r : ByteArray × Int, Both2 50 85 #[.string p, .int .i64 x, .string s] r ∧ PgOk p x r := by
  by_cases hs : s.toList = []
  · exact ⟨(⟨#[]⟩, 1), ⟨fun w => set_empty p x s w hs, fun w => refSet_empty p x s w hv hs⟩, PgOk.no (by decide)⟩
  have hs0 : 0 < s.size := by have h := hs; rw [toList_nil] at h; omega
  cases hl : lineB x with
  | false => exact ⟨(⟨#[]⟩, 7), ⟨fun w => set_line p x s w hv h0 h1 hl hs, fun w => refSet_line p x s w hv h0 h1 hl hs⟩, PgOk.no (by decide)⟩
  | true =>
    have hx : 1 ≤ x ∧ x ≤ 200 := by simp [lineB] at hl; omega
    have hG := cel_good hv
    obtain ⟨pos, hp⟩ := pos_of hG x
    by_cases he : pos < cnt p ∧ (cel p pos).1 = x
    · refine ⟨_, ⟨fun w => set_hit p x s w hv hs0 hs2 hx pos he.1 hp he.2, fun w => refSet_hit p x s w hv hx pos hp hs hs2 he⟩, fun h => ?_⟩
      obtain ⟨e1, e2, e3, e4⟩ := filled_valid p.size (cnt p) _ (setF_good hG pos s hs0) hv.1.1 h
      exact ⟨e2, e1, fun i r hne hr => by rw [e3]; exact getR_congr (getR_set hr hne he.2) (fun k hk => (e4 k hk).symm)⟩
    · exact ⟨(⟨#[]⟩, 8), ⟨fun w => set_miss p x s w hv hx pos hp hs he, fun w => refSet_miss p x s w hv hx pos hp hs he⟩, PgOk.no (by decide)⟩
theorem drop_pg : ∃ r : ByteArray × Int, Both2 54 86 #[.string p, .int .i64 x] r ∧ PgOk p x r := by
  cases hl : lineB x with
  | false => exact ⟨(⟨#[]⟩, 7), ⟨fun w => drop_line p x w hv h0 h1 hl, fun w => refDrop_line p x w hv h0 h1 hl⟩, PgOk.no (by decide)⟩
  | true =>
    have hx : 1 ≤ x ∧ x ≤ 200 := by simp [lineB] at hl; omega
    have hG := cel_good hv
    obtain ⟨pos, hp⟩ := pos_of hG x
    by_cases he : pos < cnt p ∧ (cel p pos).1 = x
    · refine ⟨_, ⟨fun w => drop_hit p x w hv hx pos hp he, fun w => refDrop_hit p x w hv hx pos hp he⟩, fun h => ?_⟩
      obtain ⟨e1, e2, e3, e4⟩ := filled_valid p.size (cnt p - 1) _ (del_good hG pos he.1) hv.1.1 h
      exact ⟨e2, e1, fun i r hne hr => by rw [e3]; exact getR_congr (getR_del hr hne he.1 he.2) (fun k hk => (e4 k hk).symm)⟩
    · exact ⟨(⟨#[]⟩, 8), ⟨fun w => drop_miss p x w hv hx pos hp he, fun w => refDrop_miss p x w hv hx pos hp he⟩, PgOk.no (by decide)⟩
end
/-- a page that holds so much more: Put of both -/
theorem put_pg (p s : ByteArray) (hv : ValidR p) (hs : s.toList ≠ []) (hs2 : s.size ≤ 140737488355328) (hh : holdsB p s.size = true) :
    ∃ (q : ByteArray) (line : Int), ValidR q ∧ q.size = p.size ∧ (∀ w, Calls Tryz.prog 77 #[.string p, .string s] w fun e w' => e = put3 (q, line, 0) ∧ Ext w w') ∧
      (∀ w, Calls Tryz.prog 81 #[.string p, .string s] w fun e w' => e = put3 (q, line, 0) ∧ Ext w w') := by
  obtain ⟨q, line, h1, h2, h3, h4⟩ := put_holds p s hv hs hs2 hh
  refine ⟨q, line, h1, h2, h3, fun w => ?_⟩
  have := refPut_ok p s w hv hs hs2 _ (Classical.choose_spec (pos_of (cel_good hv) (nextF (cel p) (cnt p))))
  rw [h4] at this
  exact this
end
section
open Go.RowKit
set_option linter.unusedVariables false
set_option linter.unusedSimpArgs false
set_option linter.unusedSectionVars false
set_option maxRecDepth 20000

/-- a slice of elements that lie in the cells 'cs' tells -/
structure SlG {α : Type} (cs : α → List Value) (w : World) (P : Option Addr) (cap : Nat) (l : List α) : Prop where
  at_ : ∀ (i : Nat) (x : α), l[i]? = some x → ∃ b off, P = some ⟨b, off, none⟩ ∧ ∀ (j : Nat) (v : Value), (cs x)[j]? = some v → w.cell? ⟨b, off + i * (cs x).length + j, none⟩ = some v
  le : l.length ≤ cap
  cap : cap ≤ 9223372036854775807
theorem SlG.ext {α : Type} {cs : α → List Value} {w w' : World} {P : Option Addr} {cap : Nat} {l : List α} (h : SlG cs w P cap l) (hx : Ext w w') : SlG cs w' P cap l :=
  ⟨fun i x hi => by obtain ⟨b, off, e, h1⟩ := h.at_ i x hi; exact ⟨b, off, e, fun j v hj => hx.cell (h1 j v hj)⟩, h.le, h.cap⟩
theorem SlG.nil {α : Type} (cs : α → List Value) (w : World) : SlG cs w none 0 [] := ⟨fun i x hi => by simp at hi, Nat.le_refl _, by omega⟩
theorem SlG.len {α : Type} {cs : α → List Value} {w : World} {P : Option Addr} {cap : Nat} {l : List α} (h : SlG cs w P cap l) : l.length ≤ 9223372036854775807 := Nat.le_trans h.le h.cap

theorem own_ext {A B : World} {base : Nat} {e : TypeId} {size : Nat} {v : Value} {n : Nat} {xs : List Value} (h : A.ownsRow base e size v n xs) (hx : Ext A B) : B.ownsRow base e size v n xs := by
  refine ⟨h.1, ?_⟩
  rcases h.2 with h0 | ⟨g, cap, cur, hv, hb, hg, rest⟩
  · exact .inl h0
  · exact .inr ⟨g, cap, cur, hv, hb, hx.heap hg, rest⟩
theorem flat_at {α : Type} {cs : α → List Value} {k : Nat} (hk : ∀ x, (cs x).length = k) : ∀ (l : List α) (i j : Nat) (x : α) (u : Value), l[i]? = some x → (cs x)[j]? = some u → (l.flatMap cs)[i * k + j]? = some u
  | [], i, j, x, u, h, _ => by simp at h
  | y :: l, 0, j, x, u, h, hu => by
    simp at h
    subst h
    rw [List.flatMap_cons, Nat.zero_mul, Nat.zero_add, List.getElem?_append_left (List.getElem?_eq_some_iff.1 hu).1]
    exact hu
  | y :: l, i + 1, j, x, u, h, hu => by
    have := flat_at hk l i j x u (by simpa using h) hu
    rw [List.flatMap_cons, List.getElem?_append_right (by rw [hk, Nat.add_mul]; omega), hk]
    rw [show (i + 1) * k + j - k = i * k + j from by rw [Nat.add_mul]; omega]
    exact this
/-- a row of the call's own, read -/
theorem own_slG {α : Type} {cs : α → List Value} {k : Nat} (hk : ∀ x, (cs x).length = k) {w : World} {base : Nat} {e : TypeId} {v : Value} {l : List α} (h : w.ownsRow base e k v l.length (l.flatMap cs)) (hl : l.length ≤ 9223372036854775807) :
    ∃ P cap, v = .slice P l.length cap ∧ SlG cs w P cap l := by
  rcases h.2 with ⟨rfl, h0⟩ | ⟨g, cap, cur, rfl, hb, hg, hcl, hcm, hcs, htk⟩
  · obtain rfl := List.length_eq_zero_iff.1 h0
    exact ⟨none, 0, rfl, SlG.nil _ _⟩
  · refine ⟨_, cap, rfl, ⟨fun i x hi => ⟨g, 0, rfl, fun j u hj => ?_⟩, hcl, by unfold maxLen at hcm; exact hcm⟩⟩
    have := h.cells (g := g) rfl (i * k + j) u (flat_at hk l i j x u hi hj)
    rw [hk]
    rw [← this]
    congr 1
    cases hn : i * k + j with
    | zero => simp [Addr.add]; omega
    | succ n => simp [Addr.add]; omega

/-- what is known of the elements of a slice type -/
structure ElemG {α : Type} (cs : α → List Value) (t e : TypeId) (k bytes : Nat) : Prop where
  ht : Tryz.prog.underlying t = some (.slice e)
  info : ∃ i z, Tryz.prog.info? e = some i ∧ i.zero = some z ∧ i.size = k ∧ i.bytes = bytes ∧ z.cells.size = k
  k0 : 0 < k
  hk : ∀ x, (cs x).length = k
  one : ∀ x, ∀ u ∈ cs x, u.oneCell' = true
/-- a list in a block of the call's own (from 'base' on) -/
def OwnG {α : Type} (cs : α → List Value) (e : TypeId) (k : Nat) (w : World) (base : Nat) (v : Value) (l : List α) : Prop := w.ownsRow base e k v l.length (l.flatMap cs)
theorem flat_of {α : Type} {cs : α → List Value} {k : Nat} (hk : ∀ x, (cs x).length = k) : ∀ (l : List α) (j : Nat) (u : Value), (l.flatMap cs)[j]? = some u → ∃ i q x, j = i * k + q ∧ l[i]? = some x ∧ (cs x)[q]? = some u
  | [], j, u, h => by simp at h
  | y :: l, j, u, h => by
    rw [List.flatMap_cons] at h
    by_cases hj : j < k
    · rw [List.getElem?_append_left (by rw [hk]; exact hj)] at h
      exact ⟨0, j, y, by omega, rfl, h⟩
    · rw [List.getElem?_append_right (by rw [hk]; omega), hk] at h
      obtain ⟨i, q, x, e, h1, h2⟩ := flat_of hk l (j - k) u h
      exact ⟨i + 1, q, x, by rw [Nat.add_mul]; omega, by simpa using h1, h2⟩
theorem flat_len {α : Type} {cs : α → List Value} {k : Nat} (hk : ∀ x, (cs x).length = k) (l : List α) : (l.flatMap cs).length = l.length * k := by
  induction l with
  | nil => simp
  | cons y l ih => rw [List.flatMap_cons, List.length_append, hk, ih, List.length_cons, Nat.add_mul]; omega
theorem flat_set {α : Type} {cs : α → List Value} {k : Nat} (hk : ∀ x, (cs x).length = k) : ∀ (l : List α) (i : Nat) (y : α), i < l.length → (l.set i y).flatMap cs = (l.flatMap cs).take (i * k) ++ cs y ++ (l.flatMap cs).drop (i * k + k)
  | [], i, y, h => by simp at h
  | x :: l, 0, y, h => by
    rw [List.set_cons_zero, List.flatMap_cons, List.flatMap_cons, Nat.zero_mul, Nat.zero_add, List.take_zero, List.nil_append, List.drop_append_of_le_length (by rw [hk]; exact Nat.le_refl _), List.drop_of_length_le (by rw [hk]; exact Nat.le_refl _), List.nil_append]
  | x :: l, i + 1, y, h => by
    rw [List.set_cons_succ, List.flatMap_cons, flat_set hk l i y (by simpa using h), List.flatMap_cons, show (i + 1) * k = k + i * k from by rw [Nat.add_mul]; omega]
    rw [show k + i * k + k = (cs x).length + (i * k + k) from by rw [hk]; omega, show k + i * k = (cs x).length + i * k from by rw [hk]]
    rw [List.drop_length_add_append, List.take_length_add_append]
    simp only [List.append_assoc]

theorem add_flat (b off n : Nat) : (⟨b, off, none⟩ : Addr).add n = ⟨b, off + n, none⟩ := by
  cases n with
  | zero => simp [Addr.add]
  | succ n => simp [Addr.add]
section
variable {α : Type} {cs : α → List Value} {t e : TypeId} {k bytes : Nat} {w : World} {base : Nat}
theorem SlG.flat {b off cap : Nat} {m : List α} (hk : ∀ x, (cs x).length = k) (h : SlG cs w (some ⟨b, off, none⟩) cap m) : ∀ j u, (m.flatMap cs)[j]? = some u → w.cell? ((⟨b, off, none⟩ : Addr).add j) = some u := by
  intro j u hj
  obtain ⟨i, q, x, rfl, h1, h2⟩ := flat_of hk m j u hj
  obtain ⟨b', off', e, h3⟩ := h.at_ i x h1
  injection e with e
  injection e with e1 e2
  subst e1 e2
  have := h3 q u h2
  rw [hk] at this
  rw [add_flat, ← this]
  congr 2
  omega
theorem OwnG.nil (cs : α → List Value) (e : TypeId) (k : Nat) (w : World) (base : Nat) : OwnG cs e k w base (.slice none 0 0) [] := World.ownsRow_nil _ _ _ _
theorem OwnG.ext {w' : World} {v : Value} {l : List α} (h : OwnG cs e k w base v l) (hx : Ext w w') : OwnG cs e k w' base v l := own_ext h hx
theorem OwnG.slG (E : ElemG cs t e k bytes) {v : Value} {l : List α} (h : OwnG cs e k w base v l) (hl : l.length ≤ 9223372036854775807) : ∃ P cap, v = .slice P l.length cap ∧ SlG cs w P cap l := own_slG E.hk h hl
theorem OwnG.base_ {v : Value} {l : List α} (h : OwnG cs e k w base v l) : ∀ g, v.ownBlock = some g → base ≤ g := fun g hg => (World.ownsRow.lt h g hg).1
/-- an empty literal, ready to be appended to -/
theorem OwnG.lit0 (hb : base ≤ w.heap.size) : OwnG cs e k (w.alloc (.cells #[] e)) base (.slice (some ⟨w.heap.size, 0, none⟩) 0 0) [] := World.ownsRow_lit w #[] 0 hb (by unfold maxLen; omega) (by simp)
/-- one element in a block of its own, read -/
theorem SlG.one (hk : ∀ x, (cs x).length = k) (x : α) {t0 : TypeId} {C : Array Value} {b : Nat} (hC : C = (cs x).toArray) (hb : b = w.heap.size) : SlG cs (w.alloc (.cells C t0)) (some ⟨b, 0, none⟩) 1 [x] := by
  subst hC hb
  refine ⟨fun i y hi => ⟨w.heap.size, 0, rfl, fun j u hj => ?_⟩, by simp, by omega⟩
  match i, hi with
  | 0, hi =>
    simp at hi
    subst hi
    rw [show (0 : Nat) + 0 * (cs x).length + j = j from by omega]
    exact (World.cell?_alloc_mark _ _ _ _ j).trans (by simpa using hj)
  | i + 1, hi => simp at hi
theorem OwnG.append (E : ElemG cs t e k bytes) (ty : TypeId) {v : Value} {l m : List α} (h : OwnG cs e k w base v l) {P : Option Addr} {c : Nat} (hm : SlG cs w P c m) (hP : P = none → c = 0) (hle : (l.length + m.length) * bytes ≤ 140737488355328) (hlb : l.length + m.length ≤ 9223372036854775807) (hbase : base ≤ w.heap.size) :
    ∃ v' w', (Builtin.append_ #[t, t] ty #[v, .slice P m.length c]).run Tryz.prog w = .ok v' w' ∧ OwnG cs e k w' base v' (l ++ m) ∧ w.grownBy w' v.ownBlock ∧ Below base w w' := by
  have hbel : ∀ w', w.grownBy w' v.ownBlock → Below base w w' := fun w' hg => Below.grown (Below.refl _ _) hg hbase (fun g hg => h.base_ g hg)
  obtain ⟨i, z, hi, hz, hs, hby, hzs⟩ := E.info
  cases P with
  | none =>
    obtain rfl := hP rfl
    obtain rfl : m = [] := List.length_eq_zero_iff.1 (by have := hm.le; omega)
    refine ⟨v, w, run_append_owned_none w base t ty e i k E.ht hi v _ _ h, by rw [List.append_nil]; exact h, ⟨rfl, rfl, rfl, Nat.le_refl _, fun _ _ _ => rfl⟩, Below.refl _ _⟩
  | some ad =>
    have hn : ∀ j u, (m.flatMap cs)[j]? = some u → w.cell? (ad.add j) = some u := by
      cases m with
      | nil => intro j u hj; simp at hj
      | cons y m =>
        obtain ⟨b, off, e, _⟩ := hm.at_ 0 y rfl
        injection e with e
        subst e
        exact hm.flat E.hk
    obtain ⟨v', w', hr, ho, hg, _⟩ := run_append_own w base t ty e i z k bytes E.ht hi hz hs hby hzs E.k0 v l.length _ h ad m.length c (m.flatMap cs) (flat_len E.hk m) hn (fun u hu => by
      obtain ⟨x, _, hx⟩ := List.mem_flatMap.1 hu
      exact E.one x u hx) (by unfold maxLen; omega) hle hbase
    refine ⟨v', w', hr, ?_, hg, hbel _ hg⟩
    unfold OwnG
    rw [List.length_append, List.flatMap_append]
    exact ho
end
section
variable {α : Type} {cs : α → List Value} {t e : TypeId} {k bytes : Nat} {w : World} {base : Nat} {ops : Array Oper} {rest : List Oper} {o : Oper} {a : Act} {Q : Exit → Act → World → Prop}
/-- append(s, x...) for the walk -/
theorem wpList_app_G (w : World) (E : ElemG cs t e k bytes) (hgd : o.guard = none) (s x : Operand) (ho : o.op = .call { callee := .builtin .append, args := #[s, x], argTypes := #[t, t] }) {v : Value} {l : List α} (hs : a.eval s = v) (h : OwnG cs e k w base v l)
    {P : Option Addr} {c : Nat} {m : List α} (hx : a.eval x = .slice P m.length c) (hm : SlG cs w P c m) (hP : P = none → c = 0) (hle : (l.length + m.length) * bytes ≤ 140737488355328) (hlb : l.length + m.length ≤ 9223372036854775807) (hbase : base ≤ w.heap.size)
    (hn : ∀ v' w', OwnG cs e k w' base v' (l ++ m) → Below base w w' → wpList Tryz.prog ops Q rest (a.put o.dst v') w') : wpList Tryz.prog ops Q (o :: rest) a w := by
  obtain ⟨v', w', hr, ho', _, hb⟩ := h.append E o.type hm hP hle hlb hbase
  exact Lib.wpList_append_run _ hgd s x _ _ ho _ _ hs hx _ _ hr (hn _ _ ho' hb)
end
theorem below_ext {a b c : World} {base : Nat} (h : Ext a b) (k : Below base b c) (hb : a.heap.size ≤ base) : Ext a c := Below.trans h (Below.mono k hb)
/-- one cell stored -/
theorem flat_set_cell {α : Type} {cs : α → List Value} {k : Nat} (hk : ∀ x, (cs x).length = k) : ∀ (l : List α) (i j : Nat) (x y : α) (u : Value), l[i]? = some x → cs y = (cs x).set j u → j < k → (l.set i y).flatMap cs = (l.flatMap cs).set (i * k + j) u
  | [], i, j, x, y, u, h, _, _ => by simp at h
  | z :: l, 0, j, x, y, u, h, hy, hj => by
    simp at h
    subst h
    rw [List.set_cons_zero, List.flatMap_cons, List.flatMap_cons, hy, Nat.zero_mul, Nat.zero_add, List.set_append_left _ _ (by rw [hk]; exact hj)]
  | z :: l, i + 1, j, x, y, u, h, hy, hj => by
    rw [List.set_cons_succ, List.flatMap_cons, List.flatMap_cons, flat_set_cell hk l i j x y u (by simpa using h) hy hj, List.set_append_right _ _ (by rw [hk, Nat.add_mul]; omega), hk]
    rw [show (i + 1) * k + j - k = i * k + j from by rw [Nat.add_mul]; omega]
theorem OwnG.setCell {α : Type} {cs : α → List Value} {e : TypeId} {k : Nat} (hk : ∀ x, (cs x).length = k) {w : World} {base g n cap : Nat} {l : List α} (h : OwnG cs e k w base (.slice (some ⟨g, 0, none⟩) n cap) l) (hn : n = l.length) (i j : Nat) (x y : α) (u : Value) (hi : l[i]? = some x) (hy : cs y = (cs x).set j u) (hj : j < k) :
    OwnG cs e k (w.setCell ⟨g, i * k + j, none⟩ u) base (.slice (some ⟨g, 0, none⟩) n cap) (l.set i y) := by
  subst hn
  unfold OwnG
  rw [List.length_set, flat_set_cell hk l i j x y u hi hy hj]
  exact (World.ownsRow.stored h _ u).1
theorem set_set_same {α : Type} (l : List α) (i : Nat) (x y : α) : (l.set i x).set i y = l.set i y := by simp
/-- a list of the call's own that is not empty -/
theorem OwnG.tight {α : Type} {cs : α → List Value} {e : TypeId} {k : Nat} {w : World} {base : Nat} {v : Value} {l : List α} (h : OwnG cs e k w base v l) (hl : 0 < l.length) : ∃ g cap, v = .slice (some ⟨g, 0, none⟩) l.length cap ∧ base ≤ g ∧ g < w.heap.size ∧ l.length ≤ cap ∧ cap ≤ 9223372036854775807 := by
  rcases h.2 with ⟨rfl, h0⟩ | ⟨g, cap, cur, rfl, hb, hg, hcl, hcm, hcs, htk⟩
  · omega
  · refine ⟨g, cap, rfl, hb, ?_, hcl, by unfold maxLen at hcm; exact hcm⟩
    rcases Nat.lt_or_ge g w.heap.size with hlt | hge
    · exact hlt
    · rw [Array.getElem?_eq_none hge] at hg; cases hg
theorem OwnG.frozen {α : Type} {cs : α → List Value} {e : TypeId} {k : Nat} {w : World} {base g n cap : Nat} {l : List α} (h : OwnG cs e k w base (.slice (some ⟨g, 0, none⟩) n cap) l) (hn : n = l.length) (j : Nat) : w.frozen? ⟨g, j, none⟩ = false := by
  subst hn
  exact World.ownsRow.frozenAt h j
theorem OwnG.cell {α : Type} {cs : α → List Value} {e : TypeId} {k : Nat} (hk : ∀ x, (cs x).length = k) {w : World} {base g n cap : Nat} {l : List α} (h : OwnG cs e k w base (.slice (some ⟨g, 0, none⟩) n cap) l) (hn : n = l.length) (i : Nat) (x : α) (hi : l[i]? = some x) (j : Nat) (u : Value) (hu : (cs x)[j]? = some u) : w.cell? ⟨g, i * k + j, none⟩ = some u := by
  subst hn
  rw [World.ownsRow.cellAt h (i * k + j) ?_]
  · exact flat_at hk l i j x u hi hu
  · have h1 := (List.getElem?_eq_some_iff.1 hi).1
    have h2 := (List.getElem?_eq_some_iff.1 hu).1
    rw [hk] at h2
    have := Nat.mul_le_mul_right k (show i + 1 ≤ l.length from h1)
    rw [Nat.add_mul] at this
    omega

theorem SlG.ge0 {α : Type} {cs : α → List Value} {w : World} {P : Option Addr} {cap : Nat} {l : List α} (h : SlG cs w P cap l) (hl : 0 < l.length) (hk : ∀ x, 0 < (cs x).length) : P = none → False := by
  intro e
  obtain ⟨b, off, e2, _⟩ := h.at_ 0 _ (List.getElem?_eq_getElem hl)
  rw [e] at e2; cases e2
/-- numbers -/
abbrev SlI := @SlG Int (fun x => [.int .i64 x])
theorem SlG.intAt {w : World} {P : Option Addr} {cap : Nat} {l : List Int} (h : SlI w P cap l) (i : Nat) (hi : i < l.length) :
    ∃ b off, P = some ⟨b, off, none⟩ ∧ w.cell? ⟨b, off + i, none⟩ = some (.int .i64 (l.getD i 0)) := by
  obtain ⟨b, off, e, h1⟩ := h.at_ i (l.getD i 0) (by simp [List.getD_eq_getElem?_getD, hi])
  exact ⟨b, off, e, by have := h1 0 _ rfl; simpa using this⟩
theorem elemI : ElemG (fun x : Int => [.int .i64 x]) 128 3 1 8 where
  ht := Tryz.underlying128
  info := by
    have h : (Tryz.prog.info? 3).map (fun i => (i.zero, i.size, i.bytes)) = some (some (.int .i64 0), 1, 8) := by kernel_rfl
    cases hq : Tryz.prog.info? 3 with
    | none => simp [hq] at h
    | some i => simp [hq] at h; exact ⟨i, _, rfl, h.1, h.2.1, h.2.2, rfl⟩
  k0 := by omega
  hk := fun _ => rfl
  one := fun x u hu => by
    simp at hu
    subst hu; rfl
theorem OwnG.cell1 {α : Type} {cs : α → List Value} {e : TypeId} (hk : ∀ x, (cs x).length = 1) {w : World} {base g n cap : Nat} {l : List α} (h : OwnG cs e 1 w base (.slice (some ⟨g, 0, none⟩) n cap) l) (hn : n = l.length) (i : Nat) (x : α) (u : Value) (hi : l[i]? = some x) (hu : cs x = [u]) : w.cell? ⟨g, i, none⟩ = some u := by
  have := h.cell hk hn i x hi 0 u (by rw [hu]; rfl)
  simpa using this
theorem OwnG.set1 {α : Type} {cs : α → List Value} {e : TypeId} (hk : ∀ x, (cs x).length = 1) {w : World} {base g n cap : Nat} {l : List α} (h : OwnG cs e 1 w base (.slice (some ⟨g, 0, none⟩) n cap) l) (hn : n = l.length) (i : Nat) (x y : α) (u : Value) (hi : l[i]? = some x) (hy : cs y = [u]) :
    OwnG cs e 1 (w.setCell ⟨g, i, none⟩ u) base (.slice (some ⟨g, 0, none⟩) n cap) (l.set i y) := by
  have := h.setCell hk hn i 0 x y u hi (by
    have := hk x
    cases hx : cs x with
    | nil => rw [hx] at this; simp at this
    | cons a b =>
      rw [hx] at this
      cases b with
      | nil => rw [hy]; rfl
      | cons c d => simp at this) (by omega)
  simpa using this
theorem int_zero : ∃ i, Tryz.prog.info? 3 = some i ∧ i.zero = some (.int .i64 0) ∧ i.size = 1 ∧ i.bytes = 8 := by
  have h : (Tryz.prog.info? 3).map (fun i => (i.zero, i.size, i.bytes)) = some (some (.int .i64 0), 1, 8) := by kernel_rfl
  cases hq : Tryz.prog.info? 3 with
  | none => simp [hq] at h
  | some i => simp [hq] at h; exact ⟨i, rfl, h.1, h.2.1, h.2.2⟩
/-- make([]T, n) for elements of one cell -/
theorem wpList_make_G {α : Type} {cs : α → List Value} {t e : TypeId} {bytes : Nat} {w : World} {ops : Array Oper} {rest : List Oper} {o : Oper} {a : Act} {Q : Exit → Act → World → Prop} (z0 : α) {z : Value} (ht : Tryz.prog.underlying t = some (.slice e)) (hi : ∃ i, Tryz.prog.info? e = some i ∧ i.zero = some z ∧ i.size = 1 ∧ i.bytes = bytes) (hz0 : cs z0 = [z]) (hzc : z.cells = #[z])
    (hgd : o.guard = none) (lo co : Operand) (ho : o.op = .makeSlice t lo co) (n : Nat) (hl : a.eval lo = .int .i64 n) (hc : a.eval co = .int .i64 n) (hb : bytes * n ≤ 281474976710656) (hm : n ≤ 9223372036854775807)
    (h : ∀ w', OwnG cs e 1 w' w.heap.size (.slice (some ⟨w.heap.size, 0, none⟩) n n) (List.replicate n z0) → Ext w w' → wpList Tryz.prog ops Q rest (a.put o.dst (.slice (some ⟨w.heap.size, 0, none⟩) n n)) w') : wpList Tryz.prog ops Q (o :: rest) a w := by
  obtain ⟨i, h1, h2, h3, h4⟩ := hi
  obtain ⟨w', hr, ho', hg⟩ := run_make_full w w.heap.size t e i z 1 ht h1 h2 h3 .i64 .i64 n (by rw [h4]; exact hb) (by unfold maxLen; omega) (Nat.le_refl _)
  refine wpList_plain hgd fun K hK => ?_
  unfold Oper.wp
  simp only [execOp, ho, hl, hc, Sem.run_bind, hr, Result.andThen_ok, Sem.run_pure]
  rw [Oper.upon_value]
  refine hK _ _ (h w' ?_ (Below.grown (Below.refl _ _) hg (Nat.le_refl _) (fun k hk => by cases hk)))
  unfold OwnG
  rw [List.length_replicate, show (List.replicate n z0).flatMap cs = (madeCells z.cells (n * 1)).toList from by
    rw [hzc, Nat.mul_one, toList_madeCells_one]
    clear h hr ho' hm hb hl hc
    induction n with
    | zero => rfl
    | succ n ih => rw [List.replicate_succ, List.flatMap_cons, ih, hz0, List.replicate_succ]; rfl]
  exact ho'
abbrev OwnI (w : World) (base : Nat) (v : Value) (l : List Int) : Prop := OwnG (fun x : Int => [.int .i64 x]) 3 1 w base v l
end
section
open Go.RowKit
set_option linter.unusedVariables false
set_option linter.unusedSimpArgs false
set_option linter.unusedSectionVars false
set_option maxRecDepth 20000

/-- texts as elements -/
abbrev csS (x : ByteArray) : List Value := [.string x]
theorem elemS : ElemG csS 26 9 1 16 where
  ht := Tryz.underlying26
  info := by
    have h : (Tryz.prog.info? 9).map (fun i => (i.zero, i.size, i.bytes)) = some (some (.string ⟨#[]⟩), 1, 16) := by kernel_rfl
    cases hq : Tryz.prog.info? 9 with
    | none => simp [hq] at h
    | some i => simp [hq] at h; exact ⟨i, _, rfl, h.1, h.2.1, h.2.2, rfl⟩
  k0 := by omega
  hk := fun _ => rfl
  one := fun x u hu => by
    simp at hu
    subst hu; rfl
abbrev OwnS (w : World) (base : Nat) (v : Value) (l : List ByteArray) : Prop := OwnG csS 9 1 w base v l
theorem OwnG.far {α : Type} {cs : α → List Value} {e : TypeId} {k : Nat} {w : World} {base : Nat} {v : Value} {l : List α} (h : OwnG cs e k w base v l) {R i : Nat} (hR : R < base) (u : Value) : OwnG cs e k (w.setCell ⟨R, i, none⟩ u) base v l :=
  World.ownsRow.kept h (Upd.setCell w R i u) (by
    cases hv : v.ownBlock with
    | none => exact .inl rfl
    | some g => exact .inr (fun e => by
        injection e with e
        have := h.base_ g hv
        omega))
/-- a reference's area: its pages, read -/
structure RS (w : World) (P : Option Addr) (cap : Nat) (size : Nat) (l : List ByteArray) : Prop where
  sl : SlG csS w P cap l
  nil : P = none → cap = 0
  good : ∀ i, i < l.length → ValidR (nthB l i) ∧ (nthB l i).size = size
  pos : 1 ≤ l.length
  le : l.length ≤ 200
  sz : sizeB (size : Int) = true
theorem RS.ext {w w' : World} {P : Option Addr} {cap size : Nat} {l : List ByteArray} (h : RS w P cap size l) (hx : Ext w w') : RS w' P cap size l := ⟨h.sl.ext hx, h.nil, h.good, h.pos, h.le, h.sz⟩
theorem nthB_some {l : List ByteArray} {i : Nat} (h : i < l.length) : l[i]? = some (nthB l i) := by simp [nthB, List.getD_eq_getElem?_getD, h]
theorem RS.rar {w : World} {P : Option Addr} {cap size : Nat} {l : List ByteArray} (h : RS w P cap size l) : RAr w P size l :=
  ⟨⟨fun i hi => by
    obtain ⟨b, off, e, h1⟩ := h.sl.at_ i _ (nthB_some hi)
    exact ⟨b, off, e, by have := h1 0 _ rfl; simpa using this⟩⟩, h.good, h.le, h.sz⟩
theorem RS.cell {w : World} {P : Option Addr} {cap size : Nat} {l : List ByteArray} (h : RS w P cap size l) (i : Nat) (hi : i < l.length) : ∃ b off, P = some ⟨b, off, none⟩ ∧ w.cell? ⟨b, off + i, none⟩ = some (.string (nthB l i)) := h.rar.sls.at_ i hi
theorem RS.sizes {w : World} {P : Option Addr} {cap size : Nat} {l : List ByteArray} (h : RS w P cap size l) : 32 ≤ size ∧ size ≤ 4096 := h.rar.sizes
/-- pages all of one size -/
structure GoodL (size : Nat) (l : List ByteArray) : Prop where
  good : ∀ i, i < l.length → ValidR (nthB l i) ∧ (nthB l i).size = size
  pos : 1 ≤ l.length
  le : l.length ≤ 200
  sz : sizeB (size : Int) = true
theorem RS.goodL {w : World} {P : Option Addr} {cap size : Nat} {l : List ByteArray} (h : RS w P cap size l) : GoodL size l := ⟨h.good, h.pos, h.le, h.sz⟩
/-- a new area of the reference's: its pages lie in a block of its own, from lo on -/
def NewR (w : World) (lo : Nat) (v : Value) (size : Nat) (l : List ByteArray) : Prop := ∃ g c, v = .agg #[.int .i64 size, .slice (some ⟨g, 0, none⟩) l.length c] ∧ lo ≤ g ∧ RS w (some ⟨g, 0, none⟩) c size l
theorem NewR.of_own {w : World} {lo size g c n : Nat} {l : List ByteArray} (h : OwnS w lo (.slice (some ⟨g, 0, none⟩) n c) l) (hn : n = l.length) (hg : GoodL size l) : NewR w lo (.agg #[.int .i64 size, .slice (some ⟨g, 0, none⟩) n c]) size l := by
  subst hn
  obtain ⟨P, c', e, hs⟩ := h.slG elemS (by have := hg.le; omega)
  injection e with e1 _ e3
  subst e1 e3
  exact ⟨g, c, rfl, h.base_ g rfl, ⟨hs, (fun e => by cases e), hg.good, hg.pos, hg.le, hg.sz⟩⟩
theorem NewR.ext {w w' : World} {lo : Nat} {v : Value} {size : Nat} {l : List ByteArray} (h : NewR w lo v size l) (hx : Ext w w') : NewR w' lo v size l := by
  obtain ⟨g, c, e, h1, h2⟩ := h
  exact ⟨g, c, e, h1, h2.ext hx⟩
theorem OwnG.lit0At {α : Type} {cs : α → List Value} {e : TypeId} {k : Nat} {w : World} {base B : Nat} (hb : base ≤ w.heap.size) (hB : w.heap.size = B) : OwnG cs e k (w.alloc (.cells #[] e)) base (.slice (some ⟨B, 0, none⟩) 0 0) [] := by
  subst hB; exact OwnG.lit0 hb
theorem OwnG.low {α : Type} {cs : α → List Value} {e : TypeId} {k : Nat} {w : World} {base base' : Nat} {v : Value} {l : List α} (h : OwnG cs e k w base v l) (hb : base' ≤ base) : OwnG cs e k w base' v l := by
  refine ⟨h.1, ?_⟩
  rcases h.2 with h0 | ⟨g, cap, cur, h1, h2, h3⟩
  · exact .inl h0
  · exact .inr ⟨g, cap, cur, h1, Nat.le_trans hb h2, h3⟩
set_option maxHeartbeats 2000000 in
theorem refCopy7 (P : Option Addr) (size cap : Nat) (l : List ByteArray) {w : World} (h : RS w P cap size l) :
    Calls Tryz.prog 82 #[.agg #[.int .i64 size, .slice P l.length cap]] w fun e w' => (∃ g c, e = .returned (.agg #[.int .i64 size, .slice (some ⟨g, 0, none⟩) l.length c]) ∧ OwnS w' w.heap.size (.slice (some ⟨g, 0, none⟩) l.length c) l) ∧ Ext w w' := by
  have hx1 : Ext w (w.alloc (.cells #[.int .i64 size, .slice P l.length cap] 28)) := (Ext.refl w).alloc _
  have hx2 := hx1.alloc (.cells #[.int .i64 0, .slice none 0 0] 28)
  have HP := Lib.hid (And.intro h.pos h.le)
  obtain ⟨b, off, rfl, _⟩ := h.cell 0 h.pos
  have hRA := (RCell.new w (.int .i64 size) (.slice (some ⟨b, off, none⟩) l.length cap)).ext ((Ext.refl _).alloc (.cells #[.int .i64 0, .slice none 0 0] 28))
  have hRB := RCell.new (w.alloc (.cells #[.int .i64 size, .slice (some ⟨b, off, none⟩) l.length cap] 28)) (.int .i64 0) (.slice none 0 0)
  rw [show (w.alloc (.cells #[.int .i64 size, .slice (some ⟨b, off, none⟩) l.length cap] 28)).heap.size = w.heap.size + 1 from by simp] at hRB
  have hs2 : ((w.alloc (.cells #[.int .i64 size, .slice (some ⟨b, off, none⟩) l.length cap] 28)).alloc (.cells #[.int .i64 0, .slice none 0 0] 28)).heap.size = w.heap.size + 1 + 1 := by simp
  go_enter Tryz.func82, Tryz.ntmps82
  go_wp2_with (at_builtin; (refine wpList_app_G _ elemS rfl _ _ rfl (base := w.heap.size + 1 + 1) rfl (OwnG.lit0At (Nat.le_of_eq hs2.symm) hs2) (m := l) rfl ((h.ext hx2).sl.ext ((Ext.refl _).alloc _)) h.nil ?d2 ?d3 ?d4 ?_; rotate_right 1; intro v7 w7 ho7 hx7; rw [List.nil_append] at ho7; obtain ⟨g7, c7, rfl, hg7, hl7, _, hc7⟩ := ho7.tight HP.out.1; have hE := below_ext ((Ext.refl _).alloc (.cells #[] 9)) hx7 (Nat.le_of_eq hs2); have hA := hRA.ext hE; have hB := hRB.ext hE; have hW := hx2.trans hE; have HO := Lib.hid ho7; have hne : w.heap.size + 1 ≠ w.heap.size := (by omega); have a0 := hA.cells.1; have a1 := hA.cells.2.1; have af1 := hA.cells.2.2.2; have hA1 := hA.set1 (.slice (some ⟨g7, 0, none⟩) l.length c7); have p0 := hA1.cells.1; have p1 := hA1.cells.2.1; have hB := hB.far (p := ⟨w.heap.size, 1, none⟩) hne (.slice (some ⟨g7, 0, none⟩) l.length c7); have q0 := hB.cells.1; have q1 := hB.cells.2.1; have qf0 := hB.cells.2.2.1; have qf1 := hB.cells.2.2.2; have hB0 := hB.set0 (.int .i64 size); have s1 := hB0.cells.2.1; have sf1 := hB0.cells.2.2.2; have r0 := (hB.read (.int .i64 size) (.slice (some ⟨g7, 0, none⟩) l.length c7)).1; have r1 := (hB.read (.int .i64 size) (.slice (some ⟨g7, 0, none⟩) l.length c7)).2; skip; clear ho7))
  case d2 => have := HP.out; simp; omega
  case d3 => have := HP.out; simp; omega
  case d4 => simp
  have own := ((((HO.out.far (R := w.heap.size) (i := 1) (by omega) (.slice (some ⟨g7, 0, none⟩) l.length c7)).far (R := w.heap.size + 1) (i := 0) (by omega) (.int .i64 size)).far (R := w.heap.size + 1) (i := 1) (by omega) (.slice (some ⟨g7, 0, none⟩) l.length c7))).low (base' := w.heap.size) (by omega)
  have hxF := ((hW.setCell (p := ⟨w.heap.size, 1, none⟩) (Nat.le_refl _) (.slice (some ⟨g7, 0, none⟩) l.length c7)).setCell (p := ⟨w.heap.size + 1, 0, none⟩) (by simp) (.int .i64 size)).setCell (p := ⟨w.heap.size + 1, 1, none⟩) (by simp) (.slice (some ⟨g7, 0, none⟩) l.length c7)
  exact bodyPost_ret (v := .agg #[.int .i64 size, .slice (some ⟨g7, 0, none⟩) l.length c7]) (by simp [results, Tryz.results82, go_sem, r0, r1]) rfl ⟨⟨g7, c7, rfl, own⟩, hxF⟩
end
section
open Go.RowKit
set_option linter.unusedVariables false
set_option linter.unusedSimpArgs false
set_option linter.unusedSectionVars false
set_option maxRecDepth 20000

noncomputable def pageG (l : List ByteArray) (x : Int) : ByteArray × Int := if 0 ≤ x ∧ x < l.length then (nthB l x.toNat, 0) else (⟨#[]⟩, 7)
theorem refPage7 (P : Option Addr) (size cap : Nat) (l : List ByteArray) (x : Int) {w : World} (h : RS w P cap size l) :
    Calls Tryz.prog 26 #[.agg #[.int .i64 size, .slice P l.length cap], .int .i64 x] w fun e w' => e = .returned (.tuple #[.string (pageG l x).1, .int .i64 (pageG l x).2]) ∧ Ext w w' := by
  have hle := h.le
  have hI := fun W => refIs_any P size x l.length cap W (by omega)
  have hx0 := (Ext.refl w).alloc (.cells #[.int .i64 size, .slice P l.length cap] 28)
  by_cases hx : 0 ≤ x ∧ x < l.length
  · obtain ⟨q, rfl⟩ : ∃ q : Nat, x = q := ⟨x.toNat, by omega⟩
    rw [decide_eq_true hx] at hI
    rw [show pageG l (q : Int) = (nthB l q, 0) from by unfold pageG; rw [if_pos hx]; simp]
    obtain ⟨b, off, rfl, hc⟩ := h.cell q (by omega)
    have c1 : (q : Int) < l.length := hx.2
    clear hx
    go_enter Tryz.func26, Tryz.ntmps26
    go_wp2_with (go_at_call 62; refine (hI _).mono ?_; rintro e w1 ⟨rfl, hx1⟩; obtain ⟨c0, c1, f0, f1⟩ := ar_box _ _ hx1; have hcc := (hx0.trans hx1).cell hc)
    go_ret2
    exact ⟨rfl, hx0.trans hx1⟩
  · rw [decide_eq_false hx] at hI
    rw [show pageG l x = (⟨#[]⟩, 7) from by unfold pageG; rw [if_neg hx]]
    clear hx
    go_enter Tryz.func26, Tryz.ntmps26
    go_wp2_with (go_at_call 62; refine (hI _).mono ?_; rintro e w1 ⟨rfl, hx1⟩)
    go_ret2
    exact ⟨rfl, hx0.trans hx1⟩

def plF (l : List ByteArray) (x y : Int) : Int := if 0 ≤ x ∧ x < l.length then (if 1 ≤ y ∧ y ≤ 200 then 0 else 7) else 7
theorem refPlace7 (P : Option Addr) (size cap : Nat) (l : List ByteArray) (x y : Int) {w : World} (hle : l.length ≤ 200) :
    Calls Tryz.prog 57 #[.agg #[.int .i64 size, .slice P l.length cap], .agg #[.int .i64 x, .int .i64 y]] w fun e w' => e = .returned (.int .i64 (plF l x y)) ∧ Ext w w' := by
  have hI := fun W => refIs_any P size x l.length cap W (by omega)
  have hx0 := ((Ext.refl w).alloc (.cells #[.int .i64 size, .slice P l.length cap] 28)).alloc (.cells #[.int .i64 x, .int .i64 y] 33)
  have hs1 : (w.alloc (.cells #[.int .i64 size, .slice P l.length cap] 28)).heap.size = w.heap.size + 1 := by simp
  have hbk := World.alloc_heap_new (w.alloc (.cells #[.int .i64 size, .slice P l.length cap] 28)) (.cells #[.int .i64 x, .int .i64 y] 33)
  rw [hs1] at hbk
  have hk1 : ((w.alloc (.cells #[.int .i64 size, .slice P l.length cap] 28)).alloc (.cells #[.int .i64 x, .int .i64 y] 33)).cell? ⟨w.heap.size + 1, 1, none⟩ = some (.int .i64 y) := by unfold World.cell?; rw [hbk]; rfl
  clear hbk hs1
  unfold plF
  by_cases hx : 0 ≤ x ∧ x < l.length
  · rw [decide_eq_true hx] at hI
    rw [if_pos hx]
    clear hx
    by_cases h1 : 1 ≤ y
    · by_cases h2 : y ≤ 200
      · rw [if_pos ⟨h1, h2⟩]
        have c1 : ¬ y < 1 := by omega
        have c2 : ¬ 200 < y := by omega
        clear h1 h2
        go_enter Tryz.func57, Tryz.ntmps57
        go_wp2_with (go_at_call 62; refine (hI _).mono ?_; rintro e w1 ⟨rfl, hx1⟩; have hcc := hx1.cell hk1)
        go_ret
        exact ⟨rfl, hx0.trans hx1⟩
      · rw [if_neg (fun h => h2 h.2)]
        have c1 : ¬ y < 1 := by omega
        have c2 : 200 < y := by omega
        clear h1 h2
        go_enter Tryz.func57, Tryz.ntmps57
        go_wp2_with (go_at_call 62; refine (hI _).mono ?_; rintro e w1 ⟨rfl, hx1⟩; have hcc := hx1.cell hk1)
        go_ret
        exact ⟨rfl, hx0.trans hx1⟩
    · rw [if_neg (fun h => h1 h.1)]
      have c1 : y < 1 := by omega
      clear h1
      go_enter Tryz.func57, Tryz.ntmps57
      go_wp2_with (go_at_call 62; refine (hI _).mono ?_; rintro e w1 ⟨rfl, hx1⟩; have hcc := hx1.cell hk1)
      go_ret
      exact ⟨rfl, hx0.trans hx1⟩
  · rw [decide_eq_false hx] at hI
    rw [if_neg hx]
    clear hx
    go_enter Tryz.func57, Tryz.ntmps57
    go_wp2_with (go_at_call 62; refine (hI _).mono ?_; rintro e w1 ⟨rfl, hx1⟩; have hcc := hx1.cell hk1)
    go_ret
    exact ⟨rfl, hx0.trans hx1⟩

set_option maxHeartbeats 2000000 in
theorem refWith7_err (P : Option Addr) (size cap n : Nat) (x er : Int) (p : ByteArray) {w : World} (he : er ≠ 0) :
    Calls Tryz.prog 84 #[.agg #[.int .i64 size, .slice P n cap], .int .i64 x, .string p, .int .i64 er] w fun e w' => e = .returned (.tuple #[.agg #[.int .i64 size, .slice P n cap], .int .i64 er]) ∧ Ext w w' := by
  have hRA := (RCell.new w (.int .i64 size) (.slice P n cap)).ext ((Ext.refl _).alloc (.cells #[.int .i64 0, .slice none 0 0] 28))
  have hRB := RCell.new (w.alloc (.cells #[.int .i64 size, .slice P n cap] 28)) (.int .i64 0) (.slice none 0 0)
  rw [show (w.alloc (.cells #[.int .i64 size, .slice P n cap] 28)).heap.size = w.heap.size + 1 from by simp] at hRB
  have hx0 := ((Ext.refl w).alloc (.cells #[.int .i64 size, .slice P n cap] 28)).alloc (.cells #[.int .i64 0, .slice none 0 0] 28)
  have e1 : (er != 0) = true := by simpa using he
  have a0 := hRA.cells.1
  have a1 := hRA.cells.2.1
  have b0 := hRB.cells.1
  have b1 := hRB.cells.2.1
  have bf0 := hRB.cells.2.2.1
  have bf1 := hRB.cells.2.2.2
  have hRB0 := hRB.set0 (.int .i64 size)
  have s1 := hRB0.cells.2.1
  have sf1 := hRB0.cells.2.2.2
  have r0 := (hRB.read (.int .i64 size) (.slice P n cap)).1
  have r1 := (hRB.read (.int .i64 size) (.slice P n cap)).2
  clear he
  go_enter Tryz.func84, Tryz.ntmps84
  go_wp2
  exact bodyPost_ret (v := .tuple #[.agg #[.int .i64 size, .slice P n cap], .int .i64 er]) (by simp [results, Tryz.results84, go_sem, r0, r1]) rfl ⟨rfl, ((Ext.refl w).alloc _).alloc _⟩
set_option maxHeartbeats 2000000 in
theorem refWith7_ok (P : Option Addr) (size cap q : Nat) (l : List ByteArray) (p : ByteArray) {w : World} (h : RS w P cap size l) (hq : q < l.length) :
    Calls Tryz.prog 84 #[.agg #[.int .i64 size, .slice P l.length cap], .int .i64 q, .string p, .int .i64 0] w fun e w' => (∃ g c, e = .returned (.tuple #[.agg #[.int .i64 size, .slice (some ⟨g, 0, none⟩) l.length c], .int .i64 0]) ∧ OwnS w' w.heap.size (.slice (some ⟨g, 0, none⟩) l.length c) (l.set q p)) ∧ Ext w w' := by
  have hRA := (RCell.new w (.int .i64 size) (.slice P l.length cap)).ext ((Ext.refl _).alloc (.cells #[.int .i64 0, .slice none 0 0] 28))
  have hRB := RCell.new (w.alloc (.cells #[.int .i64 size, .slice P l.length cap] 28)) (.int .i64 0) (.slice none 0 0)
  rw [show (w.alloc (.cells #[.int .i64 size, .slice P l.length cap] 28)).heap.size = w.heap.size + 1 from by simp] at hRB
  have hx0 := ((Ext.refl w).alloc (.cells #[.int .i64 size, .slice P l.length cap] 28)).alloc (.cells #[.int .i64 0, .slice none 0 0] 28)
  have hs2 : ((w.alloc (.cells #[.int .i64 size, .slice P l.length cap] 28)).alloc (.cells #[.int .i64 0, .slice none 0 0] 28)).heap.size = w.heap.size + 1 + 1 := by simp
  have hC := refCopy7 P size cap l (h.ext hx0)
  have c1 : (q : Int) < l.length := by omega
  have c1n : q < l.length := hq
  have hne : w.heap.size + 1 ≠ w.heap.size := by omega
  have a0 := hRA.cells.1
  have a1 := hRA.cells.2.1
  rw [hs2] at hC
  have HQ := Lib.hid (show l[q]? = some (nthB l q) from nthB_some hq)
  have HLE := Lib.hid h.le
  clear h hs2
  go_enter Tryz.func84, Tryz.ntmps84
  go_wp2_with (go_at_call 82; refine hC.mono ?_; rintro e w3 ⟨⟨g, c, rfl, ho⟩, hE⟩; have hg := ho.base_ g rfl; have hA := hRA.ext hE; have hB := hRB.ext hE; have hW := hx0.trans hE; have hga : w.heap.size ≠ g := (by omega); have hgb : w.heap.size + 1 ≠ g := (by omega); have af0 := hA.cells.2.2.1; have af1 := hA.cells.2.2.2; have A0 := hA.cells.1; have A1 := hA.cells.2.1; have hAs := hA.set0 (.int .i64 size); have x1 := hAs.cells.2.1; have xf1 := hAs.cells.2.2.2; have hA2 := hAs.set1 (.slice (some ⟨g, 0, none⟩) l.length c); have p0 := hA2.cells.1; have p1 := hA2.cells.2.1; have o2 := (ho.far (R := w.heap.size) (i := 0) (by omega) (.int .i64 size)).far (R := w.heap.size) (i := 1) (by omega) (.slice (some ⟨g, 0, none⟩) l.length c); have oc := o2.cell1 elemS.hk rfl q (nthB l q) (.string (nthB l q)) HQ.out rfl; have of := o2.frozen rfl q; have o3 := o2.set1 elemS.hk rfl q (nthB l q) p (.string p) HQ.out rfl; have hA3 := hA2.far (p := ⟨g, q, none⟩) hga (.string p); have z0 := hA3.cells.1; have z1 := hA3.cells.2.1; have hB3 := ((hB.far (p := ⟨w.heap.size, 0, none⟩) hne (.int .i64 size)).far (p := ⟨w.heap.size, 1, none⟩) hne (.slice (some ⟨g, 0, none⟩) l.length c)).far (p := ⟨g, q, none⟩) hgb (.string p); have q0 := hB3.cells.1; have q1 := hB3.cells.2.1; have qf0 := hB3.cells.2.2.1; have qf1 := hB3.cells.2.2.2; have hB4 := hB3.set0 (.int .i64 size); have s1 := hB4.cells.2.1; have sf1 := hB4.cells.2.2.2; have r0 := (hB3.read (.int .i64 size) (.slice (some ⟨g, 0, none⟩) l.length c)).1; have r1 := (hB3.read (.int .i64 size) (.slice (some ⟨g, 0, none⟩) l.length c)).2; have HO := Lib.hid o3; clear ho o2 o3 hAs hA2 hA3 hB3 hB4 hA hB)
  have own := ((HO.out.far (R := w.heap.size + 1) (i := 0) (by omega) (.int .i64 size)).far (R := w.heap.size + 1) (i := 1) (by omega) (.slice (some ⟨g, 0, none⟩) l.length c)).low (base' := w.heap.size) (by omega)
  have hxF := ((((hW.setCell (p := ⟨w.heap.size, 0, none⟩) (Nat.le_refl _) (.int .i64 size)).setCell (p := ⟨w.heap.size, 1, none⟩) (Nat.le_refl _) (.slice (some ⟨g, 0, none⟩) l.length c)).setCell (p := ⟨g, q, none⟩) (show w.heap.size ≤ g from by omega) (.string p)).setCell (p := ⟨w.heap.size + 1, 0, none⟩) (by simp) (.int .i64 size)).setCell (p := ⟨w.heap.size + 1, 1, none⟩) (by simp) (.slice (some ⟨g, 0, none⟩) l.length c)
  exact bodyPost_ret (v := .tuple #[.agg #[.int .i64 size, .slice (some ⟨g, 0, none⟩) l.length c], .int .i64 0]) (by simp [results, Tryz.results84, go_sem, r0, r1]) rfl ⟨⟨g, c, rfl, own⟩, hxF⟩
end
end Go.Proofs.YtnileonlabpbpaaGreat
