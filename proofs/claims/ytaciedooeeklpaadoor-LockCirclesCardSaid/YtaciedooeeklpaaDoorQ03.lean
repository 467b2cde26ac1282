/- LkH; Gen; TxB; TxC; Map (merged by group.py) -/
import Derived.Test.YtaciedooeeklpaaDoorQ02
import Derived.Lib.AppendZeros
import Derived.Lib.SliceRun
import Derived.Laws.OwnMore
import Derived.Test.YtaciedooeeklpaaDoorQ00
import Derived.Laws.Runes
import Derived.Maps.OwnSet
namespace Go.Proofs.YtaciedooeeklpaaDoor
section
open Go.RowKit
set_option linter.unusedVariables false
set_option linter.unusedSimpArgs false
set_option linter.unusedSectionVars false
set_option maxRecDepth 100000
attribute [local go_sem] Oper.semAt_some

theorem lmode_any (m : Int) (w : World) : Calls Tryd.prog 23 #[.int .i64 m] w fun e w' => e = .returned (.bool (modeN m)) ∧ w = w' := by
  unfold modeN
  go_enter Tryd.func23, Tryd.ntmps23
  by_cases h1 : 1 ≤ m <;> by_cases h2 : m ≤ 3
  all_goals
    go_wp2_with (fail)
    go_ret
    exact ⟨by simp [h1, h2], rfl⟩
theorem rmode_any (m : Int) (w : World) : Calls Tryd.prog 25 #[.int .i64 m] w fun e w' => e = .returned (.bool (modeN m)) ∧ w = w' := by
  unfold modeN
  go_enter Tryd.func25, Tryd.ntmps25
  by_cases h1 : 1 ≤ m <;> by_cases h2 : m ≤ 3
  all_goals
    go_wp2_with (fail)
    go_ret
    exact ⟨by simp [h1, h2], rfl⟩
theorem mode_cases {m : Int} (h : modeN m = true) : m = 1 ∨ m = 2 ∨ m = 3 := by
  have := of_decide_eq_true h
  omega
theorem cx_0 (w : World) : Sem.run Tryd.prog (Instr.index 87 (.agg #[.bool false, .bool false, .bool false, .bool false, .bool false, .bool true, .bool false, .bool true, .bool true]) (.int .i64 0)) w = .ok (.agg #[.bool false, .bool false, .bool false]) w := by rfl
theorem cx_1 (w : World) : Sem.run Tryd.prog (Instr.index 87 (.agg #[.bool false, .bool false, .bool false, .bool false, .bool false, .bool true, .bool false, .bool true, .bool true]) (.int .i64 1)) w = .ok (.agg #[.bool false, .bool false, .bool true]) w := by rfl
theorem cx_2 (w : World) : Sem.run Tryd.prog (Instr.index 87 (.agg #[.bool false, .bool false, .bool false, .bool false, .bool false, .bool true, .bool false, .bool true, .bool true]) (.int .i64 2)) w = .ok (.agg #[.bool false, .bool true, .bool true]) w := by rfl
theorem dx_0 (x0 x1 x2 : Bool) (w : World) : Sem.run Tryd.prog (Instr.index 86 (.agg #[.bool x0, .bool x1, .bool x2]) (.int .i64 0)) w = .ok (.bool x0) w := by rfl
theorem dx_1 (x0 x1 x2 : Bool) (w : World) : Sem.run Tryd.prog (Instr.index 86 (.agg #[.bool x0, .bool x1, .bool x2]) (.int .i64 1)) w = .ok (.bool x1) w := by rfl
theorem dx_2 (x0 x1 x2 : Bool) (w : World) : Sem.run Tryd.prog (Instr.index 86 (.agg #[.bool x0, .bool x1, .bool x2]) (.int .i64 2)) w = .ok (.bool x2) w := by rfl
set_option maxHeartbeats 2000000 in
theorem lclash_any (a b : Int) (w : World) (ha : modeN a = true) (hb : modeN b = true) : Calls Tryd.prog 24 #[.int .i64 a, .int .i64 b] w fun e w' => e = .returned (.bool (clashN a b)) ∧ w = w' := by
  rcases mode_cases ha with rfl | rfl | rfl <;> rcases mode_cases hb with rfl | rfl | rfl
  all_goals
    have a0 := cx_0
    have a1 := cx_1
    have a2 := cx_2
    have b0 := dx_0
    have b1 := dx_1
    have b2 := dx_2
    go_enter Tryd.func24, Tryd.ntmps24
    go_wp2_with (fail)
    go_ret
    exact ⟨rfl, rfl⟩
set_option maxHeartbeats 2000000 in
theorem rclash_any (a b : Int) (w : World) (ha : modeN a = true) (hb : modeN b = true) : Calls Tryd.prog 26 #[.int .i64 a, .int .i64 b] w fun e w' => e = .returned (.bool (clashN a b)) ∧ w = w' := by
  rcases mode_cases ha with rfl | rfl | rfl <;> rcases mode_cases hb with rfl | rfl | rfl
  all_goals
    go_enter Tryd.func26, Tryd.ntmps26
    go_wp2_with (fail)
    go_ret
    exact ⟨rfl, rfl⟩
/-- what Clash tells -/
def clashV (a b : Int) : Bool := modeN a && modeN b && clashN a b
def clashE (a b : Int) : Int := if (modeN a && modeN b) = true then 0 else 7
theorem clashV_symm (a b : Int) : clashV a b = clashV b a := by
  unfold clashV
  rw [clashN_symm, Bool.and_comm (modeN a)]
theorem lClash_any (a b : Int) (w : World) : Calls Tryd.prog 10 #[.int .i64 a, .int .i64 b] w fun e w' => e = .returned (.tuple #[.bool (clashV a b), .int .i64 (clashE a b)]) ∧ w = w' := by
  have hM := fun m W => lmode_any m W
  by_cases ha : modeN a = true <;> by_cases hb : modeN b = true
  · have hC := fun W => lclash_any a b W ha hb
    have hma := hM a
    have hmb := hM b
    rw [ha] at hma
    rw [hb] at hmb
    have HV := Lib.hid (show clashV a b = clashN a b from by unfold clashV; rw [ha, hb]; rfl)
    have HE := Lib.hid (show clashE a b = 0 from by unfold clashE; rw [ha, hb]; rfl)
    clear hM ha hb
    generalize clashN a b = z at *
    go_enter Tryd.func10, Tryd.ntmps10
    go_wp2_with (first
      | (go_at_call 23; with_reducible refine (hma _).mono ?_; rintro e w1 ⟨rfl, rfl⟩)
      | (go_at_call 23; with_reducible refine (hmb _).mono ?_; rintro e w1 ⟨rfl, rfl⟩)
      | (go_at_call 24; refine (hC _).mono ?_; rintro e w2 ⟨rfl, rfl⟩))
    go_ret2
    exact ⟨by rw [HV.out, HE.out]; rfl, rfl⟩
  all_goals
    have hma := hM a
    have hmb := hM b
    have hE : clashV a b = false ∧ clashE a b = 7 := by unfold clashV clashE; simp [ha, hb]
    have HV := Lib.hid hE
    first | rw [ha] at hma | rw [show modeN a = false from by simpa using ha] at hma
    first | rw [hb] at hmb | rw [show modeN b = false from by simpa using hb] at hmb
    clear hM ha hb hE
    go_enter Tryd.func10, Tryd.ntmps10
    go_wp2_with (first
      | (go_at_call 23; with_reducible refine (hma _).mono ?_; rintro e w1 ⟨rfl, rfl⟩)
      | (go_at_call 23; with_reducible refine (hmb _).mono ?_; rintro e w1 ⟨rfl, rfl⟩))
    go_ret2
    exact ⟨by rw [HV.out.1, HV.out.2]; rfl, rfl⟩
theorem rClash_any (a b : Int) (w : World) : Calls Tryd.prog 11 #[.int .i64 a, .int .i64 b] w fun e w' => e = .returned (.tuple #[.bool (clashV a b), .int .i64 (clashE a b)]) ∧ w = w' := by
  have hM := fun m W => rmode_any m W
  by_cases ha : modeN a = true <;> by_cases hb : modeN b = true
  · have hC := fun W => rclash_any a b W ha hb
    have hma := hM a
    have hmb := hM b
    rw [ha] at hma
    rw [hb] at hmb
    have HV := Lib.hid (show clashV a b = clashN a b from by unfold clashV; rw [ha, hb]; rfl)
    have HE := Lib.hid (show clashE a b = 0 from by unfold clashE; rw [ha, hb]; rfl)
    clear hM ha hb
    generalize clashN a b = z at *
    go_enter Tryd.func11, Tryd.ntmps11
    go_wp2_with (first
      | (go_at_call 25; with_reducible refine (hma _).mono ?_; rintro e w1 ⟨rfl, rfl⟩)
      | (go_at_call 25; with_reducible refine (hmb _).mono ?_; rintro e w1 ⟨rfl, rfl⟩)
      | (go_at_call 26; refine (hC _).mono ?_; rintro e w2 ⟨rfl, rfl⟩))
    go_ret2
    exact ⟨by rw [HV.out, HE.out]; rfl, rfl⟩
  all_goals
    have hma := hM a
    have hmb := hM b
    have hE : clashV a b = false ∧ clashE a b = 7 := by unfold clashV clashE; simp [ha, hb]
    have HV := Lib.hid hE
    first | rw [ha] at hma | rw [show modeN a = false from by simpa using ha] at hma
    first | rw [hb] at hmb | rw [show modeN b = false from by simpa using hb] at hmb
    clear hM ha hb hE
    go_enter Tryd.func11, Tryd.ntmps11
    go_wp2_with (first
      | (go_at_call 25; with_reducible refine (hma _).mono ?_; rintro e w1 ⟨rfl, rfl⟩)
      | (go_at_call 25; with_reducible refine (hmb _).mono ?_; rintro e w1 ⟨rfl, rfl⟩))
    go_ret2
    exact ⟨by rw [HV.out.1, HV.out.2]; rfl, rfl⟩
end
section
open Go.RowKit
set_option linter.unusedVariables false
set_option maxRecDepth 20000
set_option linter.unusedSimpArgs false
set_option linter.unusedSectionVars false
set_option maxRecDepth 20000

/-- a slice of elements that lie in the cells 'cs' tells -/
structure SlG {α : Type} (cs : α → List Value) (w : World) (P : Option Addr) (cap : Nat) (l : List α) : Prop where
  at_ : ∀ (i : Nat) (x : α), l[i]? = some x → ∃ b off, P = some ⟨b, off, none⟩ ∧ ∀ (j : Nat) (v : Value), (cs x)[j]? = some v → w.cell? ⟨b, off + i * (cs x).length + j, none⟩ = some v
  le : l.length ≤ cap
  cap : cap ≤ 9223372036854775807
theorem SlG.ext {α : Type} {cs : α → List Value} {w w' : World} {P : Option Addr} {cap : Nat} {l : List α} (h : SlG cs w P cap l) (hx : Ext w w') : SlG cs w' P cap l :=
  ⟨fun i x hi => by obtain ⟨b, off, e, h1⟩ := h.at_ i x hi; exact ⟨b, off, e, fun j v hj => hx.cell (h1 j v hj)⟩, h.le, h.cap⟩
theorem SlG.nil {α : Type} (cs : α → List Value) (w : World) : SlG cs w none 0 [] := ⟨fun i x hi => by simp at hi, Nat.le_refl _, by omega⟩
theorem SlG.len {α : Type} {cs : α → List Value} {w : World} {P : Option Addr} {cap : Nat} {l : List α} (h : SlG cs w P cap l) : l.length ≤ 9223372036854775807 := Nat.le_trans h.le h.cap

theorem own_ext {A B : World} {base : Nat} {e : TypeId} {size : Nat} {v : Value} {n : Nat} {xs : List Value} (h : A.ownsRow base e size v n xs) (hx : Ext A B) : B.ownsRow base e size v n xs := by
  refine ⟨h.1, ?_⟩
  rcases h.2 with h0 | ⟨g, cap, cur, hv, hb, hg, rest⟩
  · exact .inl h0
  · exact .inr ⟨g, cap, cur, hv, hb, hx.heap hg, rest⟩
theorem flat_at {α : Type} {cs : α → List Value} {k : Nat} (hk : ∀ x, (cs x).length = k) : ∀ (l : List α) (i j : Nat) (x : α) (u : Value), l[i]? = some x → (cs x)[j]? = some u → (l.flatMap cs)[i * k + j]? = some u
  | [], i, j, x, u, h, _ => by simp at h
  | y :: l, 0, j, x, u, h, hu => by
    simp at h
    subst h
    rw [List.flatMap_cons, Nat.zero_mul, Nat.zero_add, List.getElem?_append_left (List.getElem?_eq_some_iff.1 hu).1]
    exact hu
  | y :: l, i + 1, j, x, u, h, hu => by
    have := flat_at hk l i j x u (by simpa using h) hu
    rw [List.flatMap_cons, List.getElem?_append_right (by rw [hk, Nat.add_mul]; omega), hk]
    rw [show (i + 1) * k + j - k = i * k + j from by rw [Nat.add_mul]; omega]
    exact this
/-- a row of the call's own, read -/
theorem own_slG {α : Type} {cs : α → List Value} {k : Nat} (hk : ∀ x, (cs x).length = k) {w : World} {base : Nat} {e : TypeId} {v : Value} {l : List α} (h : w.ownsRow base e k v l.length (l.flatMap cs)) (hl : l.length ≤ 9223372036854775807) :
    ∃ P cap, v = .slice P l.length cap ∧ SlG cs w P cap l := by
  rcases h.2 with ⟨rfl, h0⟩ | ⟨g, cap, cur, rfl, hb, hg, hcl, hcm, hcs, htk⟩
  · obtain rfl := List.length_eq_zero_iff.1 h0
    exact ⟨none, 0, rfl, SlG.nil _ _⟩
  · refine ⟨_, cap, rfl, ⟨fun i x hi => ⟨g, 0, rfl, fun j u hj => ?_⟩, hcl, by unfold maxLen at hcm; exact hcm⟩⟩
    have := h.cells (g := g) rfl (i * k + j) u (flat_at hk l i j x u hi hj)
    rw [hk]
    rw [← this]
    congr 1
    cases hn : i * k + j with
    | zero => simp [Addr.add]; omega
    | succ n => simp [Addr.add]; omega

/-- what is known of the elements of a slice type -/
structure ElemG {α : Type} (cs : α → List Value) (t e : TypeId) (k bytes : Nat) : Prop where
  ht : Tryd.prog.underlying t = some (.slice e)
  info : ∃ i z, Tryd.prog.info? e = some i ∧ i.zero = some z ∧ i.size = k ∧ i.bytes = bytes ∧ z.cells.size = k
  k0 : 0 < k
  hk : ∀ x, (cs x).length = k
  one : ∀ x, ∀ u ∈ cs x, u.oneCell' = true
/-- a list in a block of the call's own (from 'base' on) -/
def OwnG {α : Type} (cs : α → List Value) (e : TypeId) (k : Nat) (w : World) (base : Nat) (v : Value) (l : List α) : Prop := w.ownsRow base e k v l.length (l.flatMap cs)
theorem flat_of {α : Type} {cs : α → List Value} {k : Nat} (hk : ∀ x, (cs x).length = k) : ∀ (l : List α) (j : Nat) (u : Value), (l.flatMap cs)[j]? = some u → ∃ i q x, j = i * k + q ∧ l[i]? = some x ∧ (cs x)[q]? = some u
  | [], j, u, h => by simp at h
  | y :: l, j, u, h => by
    rw [List.flatMap_cons] at h
    by_cases hj : j < k
    · rw [List.getElem?_append_left (by rw [hk]; exact hj)] at h
      exact ⟨0, j, y, by omega, rfl, h⟩
    · rw [List.getElem?_append_right (by rw [hk]; omega), hk] at h
      obtain ⟨i, q, x, e, h1, h2⟩ := flat_of hk l (j - k) u h
      exact ⟨i + 1, q, x, by rw [Nat.add_mul]; omega, by simpa using h1, h2⟩
theorem flat_len {α : Type} {cs : α → List Value} {k : Nat} (hk : ∀ x, (cs x).length = k) (l : List α) : (l.flatMap cs).length = l.length * k := by
  induction l with
  | nil => simp
  | cons y l ih => rw [List.flatMap_cons, List.length_append, hk, ih, List.length_cons, Nat.add_mul]; omega
theorem flat_set {α : Type} {cs : α → List Value} {k : Nat} (hk : ∀ x, (cs x).length = k) : ∀ (l : List α) (i : Nat) (y : α), i < l.length → (l.set i y).flatMap cs = (l.flatMap cs).take (i * k) ++ cs y ++ (l.flatMap cs).drop (i * k + k)
  | [], i, y, h => by simp at h
  | x :: l, 0, y, h => by
    rw [List.set_cons_zero, List.flatMap_cons, List.flatMap_cons, Nat.zero_mul, Nat.zero_add, List.take_zero, List.nil_append, List.drop_append_of_le_length (by rw [hk]; exact Nat.le_refl _), List.drop_of_length_le (by rw [hk]; exact Nat.le_refl _), List.nil_append]
  | x :: l, i + 1, y, h => by
    rw [List.set_cons_succ, List.flatMap_cons, flat_set hk l i y (by simpa using h), List.flatMap_cons, show (i + 1) * k = k + i * k from by rw [Nat.add_mul]; omega]
    rw [show k + i * k + k = (cs x).length + (i * k + k) from by rw [hk]; omega, show k + i * k = (cs x).length + i * k from by rw [hk]]
    rw [List.drop_length_add_append, List.take_length_add_append]
    simp only [List.append_assoc]

theorem add_flat (b off n : Nat) : (⟨b, off, none⟩ : Addr).add n = ⟨b, off + n, none⟩ := by
  cases n with
  | zero => simp [Addr.add]
  | succ n => simp [Addr.add]
section
variable {α : Type} {cs : α → List Value} {t e : TypeId} {k bytes : Nat} {w : World} {base : Nat}
theorem SlG.flat {b off cap : Nat} {m : List α} (hk : ∀ x, (cs x).length = k) (h : SlG cs w (some ⟨b, off, none⟩) cap m) : ∀ j u, (m.flatMap cs)[j]? = some u → w.cell? ((⟨b, off, none⟩ : Addr).add j) = some u := by
  intro j u hj
  obtain ⟨i, q, x, rfl, h1, h2⟩ := flat_of hk m j u hj
  obtain ⟨b', off', e, h3⟩ := h.at_ i x h1
  injection e with e
  injection e with e1 e2
  subst e1 e2
  have := h3 q u h2
  rw [hk] at this
  rw [add_flat, ← this]
  congr 2
  omega
theorem OwnG.nil (cs : α → List Value) (e : TypeId) (k : Nat) (w : World) (base : Nat) : OwnG cs e k w base (.slice none 0 0) [] := World.ownsRow_nil _ _ _ _
theorem OwnG.ext {w' : World} {v : Value} {l : List α} (h : OwnG cs e k w base v l) (hx : Ext w w') : OwnG cs e k w' base v l := own_ext h hx
theorem OwnG.slG (E : ElemG cs t e k bytes) {v : Value} {l : List α} (h : OwnG cs e k w base v l) (hl : l.length ≤ 9223372036854775807) : ∃ P cap, v = .slice P l.length cap ∧ SlG cs w P cap l := own_slG E.hk h hl
theorem OwnG.base_ {v : Value} {l : List α} (h : OwnG cs e k w base v l) : ∀ g, v.ownBlock = some g → base ≤ g := fun g hg => (World.ownsRow.lt h g hg).1
/-- an empty literal, ready to be appended to -/
theorem OwnG.lit0 (hb : base ≤ w.heap.size) : OwnG cs e k (w.alloc (.cells #[] e)) base (.slice (some ⟨w.heap.size, 0, none⟩) 0 0) [] := World.ownsRow_lit w #[] 0 hb (by unfold maxLen; omega) (by simp)
/-- one element in a block of its own, read -/
theorem SlG.one (hk : ∀ x, (cs x).length = k) (x : α) {t0 : TypeId} {C : Array Value} {b : Nat} (hC : C = (cs x).toArray) (hb : b = w.heap.size) : SlG cs (w.alloc (.cells C t0)) (some ⟨b, 0, none⟩) 1 [x] := by
  subst hC hb
  refine ⟨fun i y hi => ⟨w.heap.size, 0, rfl, fun j u hj => ?_⟩, by simp, by omega⟩
  match i, hi with
  | 0, hi =>
    simp at hi
    subst hi
    rw [show (0 : Nat) + 0 * (cs x).length + j = j from by omega]
    exact (World.cell?_alloc_mark _ _ _ _ j).trans (by simpa using hj)
  | i + 1, hi => simp at hi
theorem OwnG.append (E : ElemG cs t e k bytes) (ty : TypeId) {v : Value} {l m : List α} (h : OwnG cs e k w base v l) {P : Option Addr} {c : Nat} (hm : SlG cs w P c m) (hP : P = none → c = 0) (hle : (l.length + m.length) * bytes ≤ 140737488355328) (hlb : l.length + m.length ≤ 9223372036854775807) (hbase : base ≤ w.heap.size) :
    ∃ v' w', (Builtin.append_ #[t, t] ty #[v, .slice P m.length c]).run Tryd.prog w = .ok v' w' ∧ OwnG cs e k w' base v' (l ++ m) ∧ w.grownBy w' v.ownBlock ∧ Below base w w' := by
  have hbel : ∀ w', w.grownBy w' v.ownBlock → Below base w w' := fun w' hg => Below.grown (Below.refl _ _) hg hbase (fun g hg => h.base_ g hg)
  obtain ⟨i, z, hi, hz, hs, hby, hzs⟩ := E.info
  cases P with
  | none =>
    obtain rfl := hP rfl
    obtain rfl : m = [] := List.length_eq_zero_iff.1 (by have := hm.le; omega)
    refine ⟨v, w, run_append_owned_none w base t ty e i k E.ht hi v _ _ h, by rw [List.append_nil]; exact h, ⟨rfl, rfl, rfl, Nat.le_refl _, fun _ _ _ => rfl⟩, Below.refl _ _⟩
  | some ad =>
    have hn : ∀ j u, (m.flatMap cs)[j]? = some u → w.cell? (ad.add j) = some u := by
      cases m with
      | nil => intro j u hj; simp at hj
      | cons y m =>
        obtain ⟨b, off, e, _⟩ := hm.at_ 0 y rfl
        injection e with e
        subst e
        exact hm.flat E.hk
    obtain ⟨v', w', hr, ho, hg, _⟩ := run_append_own w base t ty e i z k bytes E.ht hi hz hs hby hzs E.k0 v l.length _ h ad m.length c (m.flatMap cs) (flat_len E.hk m) hn (fun u hu => by
      obtain ⟨x, _, hx⟩ := List.mem_flatMap.1 hu
      exact E.one x u hx) (by unfold maxLen; omega) hle hbase
    refine ⟨v', w', hr, ?_, hg, hbel _ hg⟩
    unfold OwnG
    rw [List.length_append, List.flatMap_append]
    exact ho
end
section
variable {α : Type} {cs : α → List Value} {t e : TypeId} {k bytes : Nat} {w : World} {base : Nat} {ops : Array Oper} {rest : List Oper} {o : Oper} {a : Act} {Q : Exit → Act → World → Prop}
/-- append(s, x...) for the walk -/
theorem wpList_app_G (w : World) (E : ElemG cs t e k bytes) (hgd : o.guard = none) (s x : Operand) (ho : o.op = .call { callee := .builtin .append, args := #[s, x], argTypes := #[t, t] }) {v : Value} {l : List α} (hs : a.eval s = v) (h : OwnG cs e k w base v l)
    {P : Option Addr} {c : Nat} {m : List α} (hx : a.eval x = .slice P m.length c) (hm : SlG cs w P c m) (hP : P = none → c = 0) (hle : (l.length + m.length) * bytes ≤ 140737488355328) (hlb : l.length + m.length ≤ 9223372036854775807) (hbase : base ≤ w.heap.size)
    (hn : ∀ v' w', OwnG cs e k w' base v' (l ++ m) → Below base w w' → wpList Tryd.prog ops Q rest (a.put o.dst v') w') : wpList Tryd.prog ops Q (o :: rest) a w := by
  obtain ⟨v', w', hr, ho', _, hb⟩ := h.append E o.type hm hP hle hlb hbase
  exact Lib.wpList_append_run _ hgd s x _ _ ho _ _ hs hx _ _ hr (hn _ _ ho' hb)
end
theorem below_ext {a b c : World} {base : Nat} (h : Ext a b) (k : Below base b c) (hb : a.heap.size ≤ base) : Ext a c := Below.trans h (Below.mono k hb)
/-- one cell stored -/
theorem flat_set_cell {α : Type} {cs : α → List Value} {k : Nat} (hk : ∀ x, (cs x).length = k) : ∀ (l : List α) (i j : Nat) (x y : α) (u : Value), l[i]? = some x → cs y = (cs x).set j u → j < k → (l.set i y).flatMap cs = (l.flatMap cs).set (i * k + j) u
  | [], i, j, x, y, u, h, _, _ => by simp at h
  | z :: l, 0, j, x, y, u, h, hy, hj => by
    simp at h
    subst h
    rw [List.set_cons_zero, List.flatMap_cons, List.flatMap_cons, hy, Nat.zero_mul, Nat.zero_add, List.set_append_left _ _ (by rw [hk]; exact hj)]
  | z :: l, i + 1, j, x, y, u, h, hy, hj => by
    rw [List.set_cons_succ, List.flatMap_cons, List.flatMap_cons, flat_set_cell hk l i j x y u (by simpa using h) hy hj, List.set_append_right _ _ (by rw [hk, Nat.add_mul]; omega), hk]
    rw [show (i + 1) * k + j - k = i * k + j from by rw [Nat.add_mul]; omega]
theorem OwnG.setCell {α : Type} {cs : α → List Value} {e : TypeId} {k : Nat} (hk : ∀ x, (cs x).length = k) {w : World} {base g n cap : Nat} {l : List α} (h : OwnG cs e k w base (.slice (some ⟨g, 0, none⟩) n cap) l) (hn : n = l.length) (i j : Nat) (x y : α) (u : Value) (hi : l[i]? = some x) (hy : cs y = (cs x).set j u) (hj : j < k) :
    OwnG cs e k (w.setCell ⟨g, i * k + j, none⟩ u) base (.slice (some ⟨g, 0, none⟩) n cap) (l.set i y) := by
  subst hn
  unfold OwnG
  rw [List.length_set, flat_set_cell hk l i j x y u hi hy hj]
  exact (World.ownsRow.stored h _ u).1
theorem set_set_same {α : Type} (l : List α) (i : Nat) (x y : α) : (l.set i x).set i y = l.set i y := by simp
/-- a list of the call's own that is not empty -/
theorem OwnG.tight {α : Type} {cs : α → List Value} {e : TypeId} {k : Nat} {w : World} {base : Nat} {v : Value} {l : List α} (h : OwnG cs e k w base v l) (hl : 0 < l.length) : ∃ g cap, v = .slice (some ⟨g, 0, none⟩) l.length cap ∧ base ≤ g ∧ g < w.heap.size ∧ l.length ≤ cap ∧ cap ≤ 9223372036854775807 := by
  rcases h.2 with ⟨rfl, h0⟩ | ⟨g, cap, cur, rfl, hb, hg, hcl, hcm, hcs, htk⟩
  · omega
  · refine ⟨g, cap, rfl, hb, ?_, hcl, by unfold maxLen at hcm; exact hcm⟩
    rcases Nat.lt_or_ge g w.heap.size with hlt | hge
    · exact hlt
    · rw [Array.getElem?_eq_none hge] at hg; cases hg
theorem OwnG.frozen {α : Type} {cs : α → List Value} {e : TypeId} {k : Nat} {w : World} {base g n cap : Nat} {l : List α} (h : OwnG cs e k w base (.slice (some ⟨g, 0, none⟩) n cap) l) (hn : n = l.length) (j : Nat) : w.frozen? ⟨g, j, none⟩ = false := by
  subst hn
  exact World.ownsRow.frozenAt h j
theorem OwnG.cell {α : Type} {cs : α → List Value} {e : TypeId} {k : Nat} (hk : ∀ x, (cs x).length = k) {w : World} {base g n cap : Nat} {l : List α} (h : OwnG cs e k w base (.slice (some ⟨g, 0, none⟩) n cap) l) (hn : n = l.length) (i : Nat) (x : α) (hi : l[i]? = some x) (j : Nat) (u : Value) (hu : (cs x)[j]? = some u) : w.cell? ⟨g, i * k + j, none⟩ = some u := by
  subst hn
  rw [World.ownsRow.cellAt h (i * k + j) ?_]
  · exact flat_at hk l i j x u hi hu
  · have h1 := (List.getElem?_eq_some_iff.1 hi).1
    have h2 := (List.getElem?_eq_some_iff.1 hu).1
    rw [hk] at h2
    have := Nat.mul_le_mul_right k (show i + 1 ≤ l.length from h1)
    rw [Nat.add_mul] at this
    omega

theorem SlG.ge0 {α : Type} {cs : α → List Value} {w : World} {P : Option Addr} {cap : Nat} {l : List α} (h : SlG cs w P cap l) (hl : 0 < l.length) (hk : ∀ x, 0 < (cs x).length) : P = none → False := by
  intro e
  obtain ⟨b, off, e2, _⟩ := h.at_ 0 _ (List.getElem?_eq_getElem hl)
  rw [e] at e2; cases e2
/-- numbers -/
abbrev SlI := @SlG Int (fun x => [.int .i64 x])
theorem SlG.intAt {w : World} {P : Option Addr} {cap : Nat} {l : List Int} (h : SlI w P cap l) (i : Nat) (hi : i < l.length) :
    ∃ b off, P = some ⟨b, off, none⟩ ∧ w.cell? ⟨b, off + i, none⟩ = some (.int .i64 (l.getD i 0)) := by
  obtain ⟨b, off, e, h1⟩ := h.at_ i (l.getD i 0) (by simp [List.getD_eq_getElem?_getD, hi])
  exact ⟨b, off, e, by have := h1 0 _ rfl; simpa using this⟩
theorem elemI : ElemG (fun x : Int => [.int .i64 x]) 30 3 1 8 where
  ht := Tryd.underlying30
  info := by
    have h : (Tryd.prog.info? 3).map (fun i => (i.zero, i.size, i.bytes)) = some (some (.int .i64 0), 1, 8) := by kernel_rfl
    cases hq : Tryd.prog.info? 3 with
    | none => simp [hq] at h
    | some i => simp [hq] at h; exact ⟨i, _, rfl, h.1, h.2.1, h.2.2, rfl⟩
  k0 := by omega
  hk := fun _ => rfl
  one := fun x u hu => by
    simp at hu
    subst hu; rfl
theorem OwnG.cell1 {α : Type} {cs : α → List Value} {e : TypeId} (hk : ∀ x, (cs x).length = 1) {w : World} {base g n cap : Nat} {l : List α} (h : OwnG cs e 1 w base (.slice (some ⟨g, 0, none⟩) n cap) l) (hn : n = l.length) (i : Nat) (x : α) (u : Value) (hi : l[i]? = some x) (hu : cs x = [u]) : w.cell? ⟨g, i, none⟩ = some u := by
  have := h.cell hk hn i x hi 0 u (by rw [hu]; rfl)
  simpa using this
theorem OwnG.set1 {α : Type} {cs : α → List Value} {e : TypeId} (hk : ∀ x, (cs x).length = 1) {w : World} {base g n cap : Nat} {l : List α} (h : OwnG cs e 1 w base (.slice (some ⟨g, 0, none⟩) n cap) l) (hn : n = l.length) (i : Nat) (x y : α) (u : Value) (hi : l[i]? = some x) (hy : cs y = [u]) :
    OwnG cs e 1 (w.setCell ⟨g, i, none⟩ u) base (.slice (some ⟨g, 0, none⟩) n cap) (l.set i y) := by
  have := h.setCell hk hn i 0 x y u hi (by
    have := hk x
    cases hx : cs x with
    | nil => rw [hx] at this; simp at this
    | cons a b =>
      rw [hx] at this
      cases b with
      | nil => rw [hy]; rfl
      | cons c d => simp at this) (by omega)
  simpa using this
theorem int_zero : ∃ i, Tryd.prog.info? 3 = some i ∧ i.zero = some (.int .i64 0) ∧ i.size = 1 ∧ i.bytes = 8 := by
  have h : (Tryd.prog.info? 3).map (fun i => (i.zero, i.size, i.bytes)) = some (some (.int .i64 0), 1, 8) := by kernel_rfl
  cases hq : Tryd.prog.info? 3 with
  | none => simp [hq] at h
  | some i => simp [hq] at h; exact ⟨i, rfl, h.1, h.2.1, h.2.2⟩
/-- make([]T, n) for elements of one cell -/
theorem wpList_make_G {α : Type} {cs : α → List Value} {t e : TypeId} {bytes : Nat} {w : World} {ops : Array Oper} {rest : List Oper} {o : Oper} {a : Act} {Q : Exit → Act → World → Prop} (z0 : α) {z : Value} (ht : Tryd.prog.underlying t = some (.slice e)) (hi : ∃ i, Tryd.prog.info? e = some i ∧ i.zero = some z ∧ i.size = 1 ∧ i.bytes = bytes) (hz0 : cs z0 = [z]) (hzc : z.cells = #[z])
    (hgd : o.guard = none) (lo co : Operand) (ho : o.op = .makeSlice t lo co) (n : Nat) (hl : a.eval lo = .int .i64 n) (hc : a.eval co = .int .i64 n) (hb : bytes * n ≤ 281474976710656) (hm : n ≤ 9223372036854775807)
    (h : ∀ w', OwnG cs e 1 w' w.heap.size (.slice (some ⟨w.heap.size, 0, none⟩) n n) (List.replicate n z0) → Ext w w' → wpList Tryd.prog ops Q rest (a.put o.dst (.slice (some ⟨w.heap.size, 0, none⟩) n n)) w') : wpList Tryd.prog ops Q (o :: rest) a w := by
  obtain ⟨i, h1, h2, h3, h4⟩ := hi
  obtain ⟨w', hr, ho', hg⟩ := run_make_full w w.heap.size t e i z 1 ht h1 h2 h3 .i64 .i64 n (by rw [h4]; exact hb) (by unfold maxLen; omega) (Nat.le_refl _)
  refine wpList_plain hgd fun K hK => ?_
  unfold Oper.wp
  simp only [execOp, ho, hl, hc, Sem.run_bind, hr, Result.andThen_ok, Sem.run_pure]
  rw [Oper.upon_value]
  refine hK _ _ (h w' ?_ (Below.grown (Below.refl _ _) hg (Nat.le_refl _) (fun k hk => by cases hk)))
  unfold OwnG
  rw [List.length_replicate, show (List.replicate n z0).flatMap cs = (madeCells z.cells (n * 1)).toList from by
    rw [hzc, Nat.mul_one, toList_madeCells_one]
    clear h hr ho' hm hb hl hc
    induction n with
    | zero => rfl
    | succ n ih => rw [List.replicate_succ, List.flatMap_cons, ih, hz0, List.replicate_succ]; rfl]
  exact ho'
abbrev OwnI (w : World) (base : Nat) (v : Value) (l : List Int) : Prop := OwnG (fun x : Int => [.int .i64 x]) 3 1 w base v l
end
section
open Go
set_option linter.unusedVariables false
set_option maxRecDepth 20000
set_option linter.unusedSimpArgs false

def isDg (c : UInt8) : Bool := decide (48 ≤ c.toNat) && decide (c.toNat ≤ 57)
/-- the digits at the front, 17 at most -/
def dgs (t : List UInt8) : List UInt8 := (t.take 17).takeWhile isDg
/-- a number at the front: its value, and how many bytes it has -/
def magF (minus : Bool) (t : List UInt8) : Int × Int :=
  if dgs t = [] ∨ 1 < (dgs t).length ∧ t.head? = some 48 ∨ minus = true ∧ spell 0 (dgs t) = 0 ∨ 17 ≤ (dgs t).length then (0, 0)
  else (if minus then -(spell 0 (dgs t) : Int) else spell 0 (dgs t), (dgs t).length + (if minus then 1 else 0))
def numF (t : List UInt8) : Int × Int := if t.head? = some 45 then magF true t.tail else magF false t
def wholeF (t : List UInt8) : Int × Bool := ((numF t).1, decide (0 < (numF t).2) && decide ((numF t).2 = t.length))
theorem takeWhile_all {l : List UInt8} (h : ∀ c ∈ l, isDg c = true) : l.takeWhile isDg = l := by
  induction l with
  | nil => rfl
  | cons c l ih => simp [List.takeWhile, h c (by simp), ih (fun x hx => h x (by simp [hx]))]
theorem dgs_all {l : List UInt8} (h : ∀ c ∈ l, isDg c = true) (hl : l.length ≤ 17) : dgs l = l := by
  unfold dgs
  rw [List.take_of_length_le hl, takeWhile_all h]
theorem dec_isDg (u : Nat) : ∀ c ∈ Lib.decDigits u, isDg c = true := fun c hc => by
  have := dec_digit u c hc
  simp [isDg, this]
theorem dec_head : ∀ (u : Nat), 1 ≤ u → (Lib.decDigits u).head? ≠ some 48 := by
  intro u
  induction u using Nat.strongRecOn with
  | _ u ih =>
    intro h1
    by_cases h : u < 10
    · rw [Lib.decDigits, dif_pos h]
      intro e
      simp only [List.head?_cons, Option.some.injEq] at e
      have := congrArg UInt8.toNat e
      simp at this
      omega
    · rw [Lib.decDigits, dif_neg h]
      have h2 := ih (u / 10) (by omega) (by omega)
      cases hd : Lib.decDigits (u / 10) with
      | nil => exact absurd hd (dec_ne _)
      | cons c r => rw [hd] at h2; simpa using h2
theorem mag_dec (u : Nat) (hu : u < 10000000000000000) (minus : Bool) (hm : minus = true → 1 ≤ u) :
    magF minus (Lib.decDigits u) = (if minus then -(u : Int) else u, ((Lib.decDigits u).length : Int) + (if minus then 1 else 0)) := by
  have hl := dec_len u 15 (by omega)
  have hd := dgs_all (dec_isDg u) (by omega)
  unfold magF
  rw [hd, spell_dec, if_neg]
  rintro (h | ⟨h1, h2⟩ | ⟨h1, h2⟩ | h)
  · exact dec_ne u h
  · by_cases h0 : 1 ≤ u
    · exact dec_head u h0 h2
    · have : u = 0 := by omega
      subst this
      rw [Lib.decDigits, dif_pos (by omega)] at h1
      simp at h1
  · have := hm h1; omega
  · omega
/-- Whole of Decimal -/
theorem whole_itoa (n : Int) (h0 : -10000000000000000 < n) (h1 : n < 10000000000000000) : wholeF (Lib.itoa n) = (n, true) := by
  by_cases hn : n < 0
  · have e : Lib.itoa n = 45 :: Lib.decDigits n.natAbs := by unfold Lib.itoa; rw [if_pos hn]
    have hm := mag_dec n.natAbs (by omega) true (by omega)
    have hp : 1 ≤ (Lib.decDigits n.natAbs).length := by
      cases h : Lib.decDigits n.natAbs with
      | nil => exact absurd h (dec_ne _)
      | cons c r => simp
    unfold wholeF numF
    rw [e, List.head?_cons, if_pos rfl, List.tail_cons, hm, List.length_cons]
    simp only [if_true]
    congr 1
    · omega
    · simp
  · have e : Lib.itoa n = Lib.decDigits n.toNat := by unfold Lib.itoa; rw [if_neg hn]
    have hm := mag_dec n.toNat (by omega) false (by simp)
    have hh : (Lib.decDigits n.toNat).head? ≠ some 45 := by
      cases h : Lib.decDigits n.toNat with
      | nil => simp
      | cons c r =>
        have := dec_digit n.toNat c (by rw [h]; simp)
        intro e; simp at e; subst e; simp at this
    have hp : 1 ≤ (Lib.decDigits n.toNat).length := by
      cases h : Lib.decDigits n.toNat with
      | nil => exact absurd h (dec_ne _)
      | cons c r => simp
    unfold wholeF numF
    rw [e, if_neg hh, hm]
    congr 1
    · simp; omega
    · simp; omega
end
section
open Go.RowKit
set_option linter.unusedVariables false
set_option maxRecDepth 20000
set_option linter.unusedSimpArgs false
set_option linter.unusedSectionVars false
set_option maxRecDepth 100000
attribute [local go_sem] Oper.semAt_some

theorem enc_dig : ∀ d : Fin 10, (Utf8.encode (48 + (d.val : Int))).data = #[UInt8.ofNat (48 + d.val)] := by decide +kernel
theorem enc_digit (d : Nat) (h : d < 10) : Utf8.encode (48 + (d : Int)) = ⟨#[UInt8.ofNat (48 + d)]⟩ := ByteArray.ext (enc_dig ⟨d, h⟩)
theorem str_app (a b : List UInt8) : ((⟨a.toArray⟩ : ByteArray) ++ ⟨b.toArray⟩) = ⟨(a ++ b).toArray⟩ := by
  apply ByteArray.ext
  simp
theorem dec_step (u : Nat) (h : ¬ u < 10) (r : List UInt8) : Lib.decDigits (u / 10) ++ UInt8.ofNat (48 + u % 10) :: r = Lib.decDigits u ++ r := by
  rw [Lib.decDigits.eq_def u, dif_neg h]; simp
/-- what is left of a number's digits -/
def DecRel (n k : Nat) (S : ByteArray) : Prop := Lib.decDigits k ++ S.data.toList = Lib.decDigits n
theorem DecRel.size {n k : Nat} {S : ByteArray} (h : DecRel n k S) (hn : n ≤ 9223372036854775807) : S.size ≤ 20 := by
  have := congrArg List.length h
  rw [List.length_append] at this
  have h2 := dec_len n 18 (by omega)
  have h3 : S.data.toList.length = S.size := by simp
  omega
theorem app_toList (a b : ByteArray) : (a ++ b).data.toList = a.data.toList ++ b.data.toList := by simp
end
section
open Go.RowKit Go.Maps
set_option linter.unusedVariables false
set_option maxRecDepth 20000

/-- block b is a map of bools in which just the keys l are true, and no others are -/
def MetG {α : Type} [DecidableEq α] (mk : α → Lit) (P : Program) (k e : TypeId) (w : World) (b : Nat) (l : List α) : Prop :=
  ∃ (D : DataW Unit) (n : Nat), n ≤ l.length ∧ w.ownsMap P k (plainElem P e) b n D ∧ (∀ x, has D (mk x) = decide (x ∈ l)) ∧ (∀ x, x ∈ l → ∀ z, D.atKey (mk x) z = .lit (.bool true)) ∧ (l.Nodup → size D = l.length)
section
variable {α : Type} [DecidableEq α] {mk : α → Lit} {P : Program} {k e : TypeId} {w : World} {b : Nat} {l : List α}
theorem MetG.made (w : World) : MetG mk P k e (w.alloc (.map #[] 0)) w.heap.size [] :=
  ⟨.map [], 0, by simp, World.ownsMap_made _ _ _ _, fun x => by simp [has], fun x h => by simp at h, fun _ => rfl⟩
theorem MetG.lt (h : MetG mk P k e w b l) : b < w.heap.size := by obtain ⟨D, n, _, h, _⟩ := h; exact h.lt
theorem MetG.kept {w' : World} {row : Option Nat} (h : MetG mk P k e w b l) (hg : w.grownBy w' row) (hne : some b ≠ row) : MetG mk P k e w' b l := by
  obtain ⟨D, n, hn, h, r⟩ := h
  exact ⟨D, n, hn, h.kept hg hne, r⟩
theorem MetG.same {w' : World} (h : MetG mk P k e w b l) (he : w'.heap[b]? = w.heap[b]?) : MetG mk P k e w' b l := by
  obtain ⟨D, n, hn, ⟨es, clock, hb, r'⟩, r⟩ := h
  exact ⟨D, n, hn, ⟨es, clock, he.trans hb, r'⟩, r⟩
theorem MetG.ext {w' : World} (h : MetG mk P k e w b l) (he : Ext w w') : MetG mk P k e w' b l := h.same (he.block h.lt)

theorem MetG.look (h : MetG mk P k e w b l) (K : Keyed P k) {t : TypeId} (ht : P.underlying t = some (.map k e)) (he : P.underlying e = some .bool) (hz : (zeroValue e).run P w = .ok (.bool false) w) {key : Value} {x : α} (hkey : keyOf P k key = some (mk x)) :
    (Instr.lookup t (.map (some b)) key false).run P w = .ok (.bool (decide (x ∈ l))) w := by
  obtain ⟨D, n, hn, hown, hh, ht', hs⟩ := h
  obtain ⟨v, ps, hrun, hv⟩ := hown.lookup K ht hz (plainElem_bool he false) hkey
  have hd : D.atKey (mk x) (.lit (.bool false)) = .lit (.bool (decide (x ∈ l))) := by
    by_cases hx : x ∈ l
    · rw [ht' x hx, decide_eq_true hx]
    · rw [atKey_of_not_has (by rw [hh x, decide_eq_false hx]), decide_eq_false hx]
  rw [hd] at hv
  unfold plainElem at hv
  rw [he] at hv
  cases v <;> simp at hv
  rw [hrun, hv.1]
theorem MetG.len (h : MetG mk P k e w b l) {t : TypeId} (ht : P.underlying t = some (.map k e)) (hl : l.Nodup) (ty : TypeId) : (Builtin.len_ #[t] ty #[.map (some b)]).run P w = .ok (.int .i64 l.length) w := by
  obtain ⟨D, n, hn, hown, hh, ht', hs⟩ := h
  rw [hown.len ht ty, hs hl]
theorem MetG.store (h : MetG mk P k e w b l) (K : Keyed P k) {t : TypeId} (ht : P.underlying t = some (.map k e)) (he : P.underlying e = some .bool) (hn : l.length < 9223372036854775807) (hm : ∀ x y, mk x = mk y → x = y) {key : Value} {x : α} (hk : WideAt.IsKeyLit (mk x)) (hkey : keyOf P k key = some (mk x)) :
    ∃ w', (Instr.mapUpdate t (.map (some b)) key (.bool true)).run P w = .ok () w' ∧ MetG mk P k e w' b (l ++ [x]) ∧ w.grownBy w' (some b) := by
  obtain ⟨D, n, hnl, hown, hh, ht', hs⟩ := h
  have hT := hown.tidy K
  obtain ⟨w', hrun, hown', hg⟩ := hown.update K ht (Nat.lt_of_le_of_lt hnl hn) hkey (plainElem_bool he true)
  refine ⟨w', hrun, ⟨_, n + 1, by simp; omega, hown', fun y => ?_, fun y hy z => ?_, fun hd => ?_⟩, hg⟩
  · by_cases hy : y = x
    · subst hy; rw [has_put_same hT.isMap hk]; simp
    · rw [has_put_other (fun e => hy (hm _ _ e)), hh]; simp [hy]
  · by_cases hyx : y = x
    · subst hyx; exact atKey_put_same hT.isMap hk _ _
    · rw [atKey_put_other (fun e => hyx (hm _ _ e))]
      exact ht' y (by simpa [hyx] using hy) z
  · have hd' := List.nodup_append.1 hd
    have hx : x ∉ l := fun hx => hd'.2.2 x hx x (by simp) rfl
    rw [size_put hT, hh, decide_eq_false hx, hs hd'.1]
    simp
/-- the look-up at the operation -/
theorem wpList_look_met {w : World} {ops : Array Oper} {rest : List Oper} {o : Oper} {a : Act} {Q : Exit → Act → World → Prop} (hg : o.guard = none) (m x : Operand) (t : TypeId) (hop : o.op = Op.lookup t m x false)
    {b : Nat} {l : List α} (hM : MetG mk P k e w b l) (K : Keyed P k) (ht : P.underlying t = some (.map k e)) (he : P.underlying e = some .bool) (hz : ∀ w, (zeroValue e).run P w = .ok (.bool false) w) (hm : a.eval m = .map (some b)) (key : Value) (y : α) (hx : a.eval x = key) (hkey : keyOf P k key = some (mk y))
    (r : Bool) (hr : decide (y ∈ l) = r) (hK : wpList P ops Q rest (a.put o.dst (.bool r)) w) : wpList P ops Q (o :: rest) a w := by
  refine wpList_plain hg fun K' hK' => ?_
  have hrun := hM.look K ht he (hz w) hkey
  rw [hr] at hrun
  unfold Oper.wp
  simp [execOp, hop, hm, hx, hrun, Result.andThen]
  exact hK' _ _ hK
/-- the store at the operation -/
theorem wpList_store_met {w : World} {ops : Array Oper} {rest : List Oper} {o : Oper} {a : Act} {Q : Exit → Act → World → Prop} (hg : o.guard = none) (m x v : Operand) (t : TypeId) (hop : o.op = Op.mapUpdate t m x v)
    {b : Nat} {l : List α} (hM : MetG mk P k e w b l) (K : Keyed P k) (ht : P.underlying t = some (.map k e)) (he : P.underlying e = some .bool) (hn : l.length < 9223372036854775807) (hinj : ∀ x y, mk x = mk y → x = y) (hm : a.eval m = .map (some b)) (key : Value) (y : α) (hx : a.eval x = key) (hv : a.eval v = .bool true) (hk : WideAt.IsKeyLit (mk y)) (hkey : keyOf P k key = some (mk y))
    (hK : ∀ w', MetG mk P k e w' b (l ++ [y]) → w.grownBy w' (some b) → wpList P ops Q rest (a.put o.dst undef) w') : wpList P ops Q (o :: rest) a w := by
  refine wpList_plain hg fun K' hK' => ?_
  obtain ⟨w', hrun, h1, h2⟩ := hM.store K ht he hn hinj hk hkey
  unfold Oper.wp
  simp [execOp, hop, hm, hx, hv, hrun, Result.andThen]
  exact hK' _ _ (hK w' h1 h2)
end
end
end Go.Proofs.YtaciedooeeklpaaDoor
