/- Base; LkA (merged by group.py) -/
import Derived.Test.YtaciedooeeklpaaDoorProg
import Derived.WalkKit
import Derived.ProofKit
import Derived.OpenShut
import Derived.LoopTactic
import Derived.Lib.Hide
import Derived.Lib.Strings
import Derived.Laws.CopyOwn
import Derived.Laws.BytesArg
import Derived.Laws.MakeOwn
import Derived.Lib.BufferWrite
import Derived.Deep.QuietTactic
import Derived.BigQuiet
import Derived.Deep.RegionHeld3
import Derived.Deep.Draws
namespace Go.Proofs.YtaciedooeeklpaaDoor
section
open Go.RowKit
set_option linter.unusedVariables false
set_option maxRecDepth 20000

/-- The world has only grown: all blocks that were there are as they were. -/
def Ext (w w' : World) : Prop := Below w.heap.size w w'
theorem Ext.refl (w : World) : Ext w w := Below.refl _ _
theorem Ext.trans {a b c : World} (h : Ext a b) (k : Ext b c) : Ext a c := Below.trans h (Below.mono k h.size)
theorem Ext.size {a b : World} (h : Ext a b) : a.heap.size ≤ b.heap.size := Below.size h
theorem Ext.drew {a b : World} (h : Ext a b) : Ext a b.drew := Below.drew h
theorem Ext.drewN {a b : World} (h : Ext a b) (n : Nat) : Ext a (b.drewN n) := ⟨h.os, h.tape, h.output, h.size, h.block⟩
theorem Ext.alloc {a b : World} (h : Ext a b) (o : Obj) : Ext a (b.alloc o) := Below.alloc h h.size o
theorem Ext.setCell {a b : World} (h : Ext a b) {p : Addr} (hp : a.heap.size ≤ p.block) (u : Value) : Ext a (b.setCell p u) := Below.setCell h hp u
theorem Ext.block {a b : World} (h : Ext a b) {k : Nat} (hk : k < a.heap.size) : b.heap[k]? = a.heap[k]? := Below.block h k hk
theorem block_lt {w : World} {a : Addr} {v : Value} (h : w.cell? a = some v) : a.block < w.heap.size := World.block_lt_of_cell? w a h
theorem Ext.cell {a b : World} (h : Ext a b) {p : Addr} {v : Value} (hc : a.cell? p = some v) : b.cell? p = some v := by
  rw [Below.cell h (block_lt hc)]; exact hc
theorem Ext.heap {a b : World} (h : Ext a b) {g : Nat} {o : Obj} (hg : a.heap[g]? = some o) : b.heap[g]? = some o := by
  have hlt : g < a.heap.size := by
    rcases Nat.lt_or_ge g a.heap.size with hlt | hge
    · exact hlt
    · rw [Array.getElem?_eq_none hge] at hg; cases hg
  rw [h.block hlt]; exact hg

theorem ret_int {k : IntKind} {a b : Int} (h : a = b) : Ending.returned (.int k a) = .returned (.int k b) := by rw [h]
theorem ret_bool {a b : Bool} (h : a = b) : Ending.returned (.bool a) = .returned (.bool b) := by rw [h]

theorem quiet_add_left {P : Program} {f : FuncId} {args : Array Value} {w : World} {a n : Nat} {v : Value}
    (h : Calls P f args (w.drewN (a + n)) fun e w' => e = .returned v ∧ w.drewN (a + n) = w') :
    Calls P f args (w.drewN (a + n)) fun e w'' => e = .returned v ∧ ∃ m, w'' = w.drewN (a + m) :=
  h.mono fun _ _ ⟨he, hm⟩ => ⟨he, n, hm.symm⟩
theorem quiet_left {P : Program} {f : FuncId} {args : Array Value} {w : World} {n : Nat} {v : Value}
    (h : Calls P f args (w.drewN n) fun e w' => e = .returned v ∧ w.drewN n = w') : Calls P f args (w.drewN n) fun e w'' => e = .returned v ∧ ∃ m, w'' = w.drewN m :=
  h.mono fun _ _ ⟨he, hm⟩ => ⟨he, n, hm.symm⟩
theorem quiet_add_n {P : Program} {f : FuncId} {args : Array Value} {w : World} {a n : Nat} {v : Value}
    (h : Calls P f args (w.drewN (a + n)) fun e w' => e = .returned v ∧ ∃ m, w' = (w.drewN (a + n)).drewN m) :
    Calls P f args (w.drewN (a + n)) fun e w'' => e = .returned v ∧ ∃ m, w'' = w.drewN (a + m) :=
  h.mono fun _ _ ⟨he, m, hm⟩ => ⟨he, n + m, by rw [hm, World.drewN_drewN, Nat.add_assoc]⟩
theorem quiet_n {P : Program} {f : FuncId} {args : Array Value} {w : World} {n : Nat} {v : Value}
    (h : Calls P f args (w.drewN n) fun e w' => e = .returned v ∧ ∃ m, w' = (w.drewN n).drewN m) :
    Calls P f args (w.drewN n) fun e w'' => e = .returned v ∧ ∃ m, w'' = w.drewN m :=
  h.mono fun _ _ ⟨he, m, hm⟩ => ⟨he, n + m, by rw [hm, World.drewN_drewN]⟩

/-- byte i of a text as a number; 0 beyond its end -/
def bt (p : ByteArray) (i : Nat) : Nat := (p.data.toList.getD i 0).toNat
theorem bt_lt (p : ByteArray) (i : Nat) : bt p i < 256 := UInt8.toNat_lt _
theorem get_bt (p : ByteArray) (i : Nat) (h : i < p.size) : (p[i]'h).toNat = bt p i := by
  have h' : i < p.data.toList.length := by simpa using h
  unfold bt
  rw [List.getD_eq_getElem?_getD, List.getElem?_eq_getElem h']
  rfl
theorem wrap_byte (n : Nat) (h : n < 256) : wrap64 (n : Int) = n := IntWalk.wrap64_in _ ⟨by omega, by omega⟩

theorem toList_nil (s : ByteArray) : s.toList = [] ↔ s.size = 0 := by
  rw [Lib.toList_data, Lib.size_eq]
  exact List.length_eq_zero_iff.symm

/-- A block of bytes of the call's own, known whole. -/
def BB (w : World) (g : Nat) (l : List UInt8) : Prop := w.heap[g]? = some (.cells (l.map fun b => Value.int .u8 b.toNat).toArray 5 (0, 0))
theorem BB.ext {w w' : World} {g : Nat} {l : List UInt8} (h : BB w g l) (he : Ext w w') : BB w' g l := he.heap h
theorem BB.drew {w : World} {g : Nat} {l : List UInt8} (h : BB w g l) : BB w.drew g l := h
theorem BB.lt {w : World} {g : Nat} {l : List UInt8} (h : BB w g l) : g < w.heap.size := by
  rcases Nat.lt_or_ge g w.heap.size with hlt | hge
  · exact hlt
  · unfold BB at h; rw [Array.getElem?_eq_none hge] at h; cases h
theorem BB.cell {w : World} {g : Nat} {l : List UInt8} (h : BB w g l) (i : Nat) (hi : i < l.length) : w.cell? ⟨g, i, none⟩ = some (.int .u8 l[i].toNat) := by
  unfold BB at h
  simp [World.cell?, h, hi]
theorem BB.frozen {w : World} {g : Nat} {l : List UInt8} (h : BB w g l) (i : Nat) : w.frozen? ⟨g, i, none⟩ = false := by
  unfold BB at h
  simp [World.frozen?, h]
theorem BB.set_ {w : World} {g : Nat} {l : List UInt8} (h : BB w g l) (i : Nat) (b : UInt8) : BB (w.setCell ⟨g, i, none⟩ (.int .u8 b.toNat)) g (l.set i b) := by
  unfold BB at h ⊢
  simp [World.setCell, Array.getElem?_modify, h]
theorem BB.new_ {w : World} {C : Array Value} {l : List UInt8} (h : C = (l.map fun b => Value.int .u8 b.toNat).toArray) : BB (w.alloc (.cells C 5)) w.heap.size l := by
  subst h
  exact heap_alloc_new w _
theorem BB.alloc {w : World} {g : Nat} {l : List UInt8} (h : BB w g l) (o : Obj) : BB (w.alloc o) g l := (Below.heap_alloc w o g h.lt).trans h
theorem BB.far {w : World} {g : Nat} {l : List UInt8} (h : BB w g l) {p : Addr} (hp : g ≠ p.block) (u : Value) : BB (w.setCell p u) g l :=
  (Below.heap_setCell w p u g hp).trans h
end
section
set_option linter.unusedVariables false
set_option linter.unusedSimpArgs false

/-- whether a list is less than another one of its length -/
def ltL : List Int → List Int → Bool
  | a :: l, b :: m => if a = b then ltL l m else decide (a < b)
  | _, _ => false
theorem ltL_irr : ∀ l, ltL l l = false
  | [] => rfl
  | a :: l => by simp [ltL, ltL_irr l]
theorem ltL_trans : ∀ {a b c : List Int}, ltL a b = true → ltL b c = true → ltL a c = true
  | [], _, _, h, _ => by simp [ltL] at h
  | _ :: _, [], _, h, _ => by simp [ltL] at h
  | _ :: _, _ :: _, [], _, h => by simp [ltL] at h
  | x :: a, y :: b, z :: c, h1, h2 => by
    unfold ltL at *
    by_cases e1 : x = y
    · subst e1
      by_cases e2 : x = z
      · subst e2
        simp only [if_true] at *
        exact ltL_trans h1 h2
      · simp only [if_true, if_neg e2] at *
        exact h2
    · by_cases e2 : y = z
      · subst e2
        simp only [if_neg e1, if_true] at *
        exact h1
      · simp only [if_neg e1, if_neg e2, decide_eq_true_eq] at *
        rw [if_neg (by omega)]
        simp; omega
theorem ltL_asymm {a b : List Int} (h : ltL a b = true) : ltL b a = false := by
  cases e : ltL b a with
  | false => rfl
  | true => have := ltL_trans h e; rw [ltL_irr] at this; cases this
theorem ltL_total : ∀ {a b : List Int}, a.length = b.length → a ≠ b → ltL a b = true ∨ ltL b a = true
  | [], [], _, h => absurd rfl h
  | [], _ :: _, h, _ => by simp at h
  | _ :: _, [], h, _ => by simp at h
  | x :: a, y :: b, hl, hne => by
    unfold ltL
    by_cases e : x = y
    · subst e
      simp only [if_true]
      exact ltL_total (by simpa using hl) (fun e => hne (by rw [e]))
    · simp only [if_neg e, if_neg (Ne.symm e), decide_eq_true_eq]
      omega
theorem ltL_app : ∀ {a b : List Int} (l m : List Int), a.length = b.length → ltL a b = true → ltL (a ++ l) (b ++ m) = true
  | [], b, _, _, _, h => by simp [ltL] at h
  | _ :: _, [], _, _, h, _ => by simp at h
  | x :: a, y :: b, l, m, hl, h => by
    simp only [List.cons_append]
    unfold ltL at *
    by_cases e : x = y
    · simp only [if_pos e] at *
      exact ltL_app l m (by simpa using hl) h
    · simp only [if_neg e] at *
      exact h
theorem ltL_same : ∀ (a : List Int) {l m : List Int}, ltL (a ++ l) (a ++ m) = ltL l m
  | [], _, _ => rfl
  | x :: a, l, m => by
    simp only [List.cons_append]
    rw [ltL, if_pos rfl]
    exact ltL_same a
/-- the end of a way -/
def endW (w : List Int) : Int := w.getLastD 0
theorem endW_app (w : List Int) (v : Int) : endW (w ++ [v]) = v := by simp [endW]
theorem ltL_ext {a b : List Int} {v : Int} (hl : a.length = b.length) : ltL (a ++ [v]) (b ++ [v]) = ltL a b := by
  by_cases e : a = b
  · subst e; rw [ltL_same, ltL_irr, ltL_irr]
  · rcases ltL_total hl e with h | h
    · rw [ltL_app _ _ hl h, h]
    · rw [ltL_asymm (ltL_app [v] [v] hl.symm h), ltL_asymm h]
/- the program's search -/
/-- what is new behind the ways of a level -/
def expP (next : Int → List Int) : List (List Int) → List Int → List (List Int)
  | [], _ => []
  | w :: ws, met => ((next (endW w)).filter fun v => decide (v ∉ met)).map (fun v => w ++ [v]) ++ expP next ws (met ++ (next (endW w)).filter fun v => decide (v ∉ met))
def metP (next : Int → List Int) : List (List Int) → List Int → List Int
  | [], met => met
  | w :: ws, met => metP next ws (met ++ (next (endW w)).filter fun v => decide (v ∉ met))
/-- the first way of a level that leads back -/
def backP (next : Int → List Int) (start : Int) (ws : List (List Int)) : Option (List Int) := ws.find? fun w => decide (start ∈ next (endW w))
def circP (next : Int → List Int) (start : Int) : Nat → List (List Int) → List Int → Option (List Int)
  | 0, _, _ => none
  | f + 1, ws, met => if ws = [] then none else match backP next start ws with
    | some w => some w
    | none => circP next start f (expP next ws met) (metP next ws met)
/- the reference's search -/
/-- a level's state: the best way back, the ways of the next level, what they lead to -/
abbrev LvR := Option (List Int) × List (List Int) × List Int
/-- the place of the way that leads to a number; the last one -/
def haveR (nx : List (List Int)) (v : Int) : Option Nat := (List.range nx.length).foldl (fun h n => if endW (nx.getD n []) = v then some n else h) none
def stepR (start : Int) (met : List Int) (s : LvR) (c : List Int × Int) : LvR :=
  if c.2 = start then (match s.1 with
    | none => (some c.1, s.2)
    | some b => if ltL c.1 b = true then (some c.1, s.2) else s)
  else if c.2 ∈ met then s
  else match haveR s.2.1 c.2 with
    | none => (s.1, s.2.1 ++ [c.1 ++ [c.2]], s.2.2 ++ [c.2])
    | some i => if ltL (c.1 ++ [c.2]) (s.2.1.getD i []) = true then (s.1, s.2.1.set i (c.1 ++ [c.2]), s.2.2) else s
/-- the steps of a way -/
def candW (edges : List (Int × Int)) (w : List Int) : List (List Int × Int) := (edges.filter fun e => decide (e.1 = endW w)).map fun e => (w, e.2)
def candR (edges : List (Int × Int)) (ws : List (List Int)) : List (List Int × Int) := ws.flatMap (candW edges)
def levR (edges : List (Int × Int)) (start : Int) (met : List Int) (ws : List (List Int)) : LvR := (candR edges ws).foldl (stepR start met) (none, [], [])
def circR (edges : List (Int × Int)) (start : Int) : Nat → List (List Int) → List Int → Option (List Int)
  | 0, _, _ => none
  | f + 1, ws, met => if ws = [] then none else match (levR edges start met ws).1 with
    | some w => some w
    | none => circR edges start f (levR edges start met ws).2.1 (met ++ (levR edges start met ws).2.2)
theorem haveR_spec (nx : List (List Int)) (v : Int) : (haveR nx v = none → ∀ x ∈ nx, endW x ≠ v) ∧ (∀ i, haveR nx v = some i → i < nx.length ∧ endW (nx.getD i []) = v) := by
  unfold haveR
  have key : ∀ n, n ≤ nx.length → let r := (List.range n).foldl (fun (h : Option Nat) n => if endW (nx.getD n []) = v then some n else h) none
      (r = none → ∀ j, j < n → endW (nx.getD j []) ≠ v) ∧ (∀ i, r = some i → i < n ∧ endW (nx.getD i []) = v) := by
    intro n
    induction n with
    | zero => intro _; exact ⟨fun _ j hj => by omega, fun i h => by simp at h⟩
    | succ n ih =>
      intro hn
      obtain ⟨h1, h2⟩ := ih (by omega)
      simp only [List.range_succ, List.foldl_append, List.foldl_cons, List.foldl_nil]
      by_cases e : endW (nx.getD n []) = v
      · rw [if_pos e]
        exact ⟨fun h => (by cases h), fun i h => (by injection h with h; subst h; exact ⟨by omega, e⟩)⟩
      · rw [if_neg e]
        refine ⟨fun h j hj => ?_, fun i h => ⟨by have := (h2 i h).1; omega, (h2 i h).2⟩⟩
        by_cases ej : j = n
        · subst ej; exact e
        · exact h1 h j (by omega)
  obtain ⟨h1, h2⟩ := key nx.length (Nat.le_refl _)
  refine ⟨fun h x hx => ?_, h2⟩
  obtain ⟨j, hj, rfl⟩ := List.mem_iff_getElem.1 hx
  have := h1 h j hj
  rwa [List.getD_eq_getElem?_getD, List.getElem?_eq_getElem hj] at this
/-- what a level has found behind the steps C -/
structure LvOk (start : Int) (met : List Int) (n : Nat) (C : List (List Int × Int)) (s : LvR) : Prop where
  none_ : s.1 = none ↔ ∀ w, (w, start) ∉ C
  best : ∀ b, s.1 = some b → (b, start) ∈ C ∧ ∀ w, (w, start) ∈ C → ltL w b = false
  all : ∀ w v, (w, v) ∈ C → v ≠ start → v ∉ met → ∃ x ∈ s.2.1, endW x = v
  good : ∀ x ∈ s.2.1, ∃ w v, x = w ++ [v] ∧ (w, v) ∈ C ∧ v ≠ start ∧ v ∉ met ∧ ∀ w', (w', v) ∈ C → ltL w' w = false
  uniq : ∀ (i j : Nat) (x y : List Int), s.2.1[i]? = some x → s.2.1[j]? = some y → endW x = endW y → i = j
  fd : ∀ v, v ∈ s.2.2 ↔ ∃ x ∈ s.2.1, endW x = v
theorem snoc_ind {α : Type} {p : List α → Prop} (h0 : p []) (h1 : ∀ l a, p l → p (l ++ [a])) (l : List α) : p l := by
  rw [← List.reverse_reverse l]
  induction l.reverse with
  | nil => exact h0
  | cons a l ih => rw [List.reverse_cons]; exact h1 _ _ ih
theorem lv_ok (start : Int) (met : List Int) (n : Nat) : ∀ (C : List (List Int × Int)), (∀ c ∈ C, c.1.length = n) → LvOk start met n C (C.foldl (stepR start met) (none, [], [])) := by
  refine snoc_ind ?_ ?_
  · intro _; exact ⟨by simp, by simp, by simp, by simp, by simp, by simp⟩
  · intro C c ih hC
    have H := ih (fun c hc => hC c (List.mem_append_left _ hc))
    have hcl : c.1.length = n := hC c (by simp)
    rw [List.foldl_append]
    simp only [List.foldl_cons, List.foldl_nil]
    generalize C.foldl (stepR start met) (none, [], []) = s at *
    obtain ⟨w0, v0⟩ := c
    obtain ⟨b, nx, fd⟩ := s
    dsimp only at hcl
    unfold stepR
    dsimp only
    by_cases e1 : v0 = start
    · subst e1
      rw [if_pos rfl]
      cases hb : b with
      | none =>
        subst hb
        have hno := H.none_.1 rfl
        refine ⟨?_, ?_, ?_, ?_, H.uniq, H.fd⟩
        · simp only [reduceCtorEq, false_iff]
          intro h
          exact h w0 (by simp)
        · intro b' hb'
          injection hb' with hb'
          subst hb'
          refine ⟨by simp, fun w hw => ?_⟩
          rcases List.mem_append.1 hw with h | h
          · exact absurd h (hno w)
          · simp at h; subst h; exact ltL_irr _
        · intro w v hv h1 h2
          rcases List.mem_append.1 hv with h | h
          · exact H.all w v h h1 h2
          · simp at h; exact absurd h.2 h1
        · intro x hx
          obtain ⟨w, v, h1, h2, h3, h4, h5⟩ := H.good x hx
          refine ⟨w, v, h1, List.mem_append_left _ h2, h3, h4, fun w' hw' => ?_⟩
          rcases List.mem_append.1 hw' with h | h
          · exact h5 w' h
          · simp at h; exact absurd h.2 h3
      | some b0 =>
        subst hb
        obtain ⟨g1, g2⟩ := H.best b0 rfl
        have hall : ∀ w v, (w, v) ∈ C ++ [(w0, v0)] → v ≠ v0 → (w, v) ∈ C := fun w v h hv => by
          rcases List.mem_append.1 h with h | h
          · exact h
          · simp at h; exact absurd h.2 hv
        have hgood : ∀ x ∈ nx, ∃ w v, x = w ++ [v] ∧ (w, v) ∈ C ++ [(w0, v0)] ∧ v ≠ v0 ∧ v ∉ met ∧ ∀ w', (w', v) ∈ C ++ [(w0, v0)] → ltL w' w = false := fun x hx => by
          obtain ⟨w, v, h1, h2, h3, h4, h5⟩ := H.good x hx
          exact ⟨w, v, h1, List.mem_append_left _ h2, h3, h4, fun w' hw' => h5 w' (hall w' v hw' h3)⟩
        dsimp only
        by_cases hlt : ltL w0 b0 = true
        · rw [if_pos hlt]
          refine ⟨?_, ?_, fun w v hv h1 h2 => H.all w v (hall w v hv h1) h1 h2, hgood, H.uniq, H.fd⟩
          · simp only [reduceCtorEq, false_iff]
            intro h
            exact h w0 (by simp)
          · intro b' hb'
            injection hb' with hb'
            subst hb'
            refine ⟨by simp, fun w hw => ?_⟩
            rcases List.mem_append.1 hw with h | h
            · cases e : ltL w w0 with
              | false => rfl
              | true => have := ltL_trans e hlt; rw [g2 w h] at this; cases this
            · simp at h; subst h; exact ltL_irr _
        · rw [if_neg hlt]
          refine ⟨?_, ?_, fun w v hv h1 h2 => H.all w v (hall w v hv h1) h1 h2, hgood, H.uniq, H.fd⟩
          · simp only [reduceCtorEq, false_iff]
            intro h
            exact h w0 (by simp)
          · intro b' hb'
            injection hb' with hb'
            subst hb'
            refine ⟨List.mem_append_left _ g1, fun w hw => ?_⟩
            rcases List.mem_append.1 hw with h | h
            · exact g2 w h
            · simp at h; subst h; simpa using hlt
    · rw [if_neg e1]
      have hst : ∀ w, (w, start) ∈ C ++ [(w0, v0)] ↔ (w, start) ∈ C := fun w => by
        rw [List.mem_append]
        constructor
        · rintro (h | h)
          · exact h
          · simp at h; exact absurd h.2.symm e1
        · exact fun h => .inl h
      have hnone : b = none ↔ ∀ w, (w, start) ∉ C ++ [(w0, v0)] := by
        rw [show (b = none ↔ _) from H.none_]
        exact ⟨fun h w hw => h w ((hst w).1 hw), fun h w hw => h w ((hst w).2 hw)⟩
      have hbest : ∀ b', b = some b' → (b', start) ∈ C ++ [(w0, v0)] ∧ ∀ w, (w, start) ∈ C ++ [(w0, v0)] → ltL w b' = false := fun b' hb' => by
        obtain ⟨g1, g2⟩ := H.best b' hb'
        exact ⟨(hst b').2 g1, fun w hw => g2 w ((hst w).1 hw)⟩
      by_cases e2 : v0 ∈ met
      · rw [if_pos e2]
        have hall : ∀ w v, (w, v) ∈ C ++ [(w0, v0)] → v ∉ met → (w, v) ∈ C := fun w v h hv => by
          rcases List.mem_append.1 h with h | h
          · exact h
          · simp at h; exact absurd (h.2 ▸ e2) hv
        refine ⟨hnone, hbest, fun w v hv h1 h2 => H.all w v (hall w v hv h2) h1 h2, fun x hx => ?_, H.uniq, H.fd⟩
        obtain ⟨w, v, h1, h2, h3, h4, h5⟩ := H.good x hx
        exact ⟨w, v, h1, List.mem_append_left _ h2, h3, h4, fun w' hw' => h5 w' (hall w' v hw' h4)⟩
      · rw [if_neg e2]
        obtain ⟨k1, k2⟩ := haveR_spec nx v0
        cases hh : haveR nx v0 with
        | none =>
          have hno := k1 hh
          have hnoC : ∀ w, (w, v0) ∉ C := fun w hw => by
            obtain ⟨x, hx, he⟩ := H.all w v0 hw e1 e2
            exact hno x hx he
          refine ⟨hnone, hbest, ?_, ?_, ?_, ?_⟩
          · intro w v hv h1 h2
            rcases List.mem_append.1 hv with h | h
            · obtain ⟨x, hx, he⟩ := H.all w v h h1 h2
              exact ⟨x, List.mem_append_left _ hx, he⟩
            · simp at h
              exact ⟨w0 ++ [v0], by simp, by rw [endW_app, h.2]⟩
          · intro x hx
            rcases List.mem_append.1 hx with h | h
            · obtain ⟨w, v, h1, h2, h3, h4, h5⟩ := H.good x h
              refine ⟨w, v, h1, List.mem_append_left _ h2, h3, h4, fun w' hw' => ?_⟩
              rcases List.mem_append.1 hw' with h' | h'
              · exact h5 w' h'
              · simp at h'
                exact absurd h2 (h'.2 ▸ hnoC w)
            · simp at h
              refine ⟨w0, v0, h, by simp, e1, e2, fun w' hw' => ?_⟩
              rcases List.mem_append.1 hw' with h' | h'
              · exact absurd h' (hnoC w')
              · simp at h'; rw [h']; exact ltL_irr _
          · have hget : ∀ (i : Nat) (x : List Int), (nx ++ [w0 ++ [v0]])[i]? = some x → (nx[i]? = some x ∧ endW x ≠ v0) ∨ (i = nx.length ∧ endW x = v0) := fun i x hi => by
              have hl := (List.getElem?_eq_some_iff.1 hi).1
              rw [List.length_append, List.length_singleton] at hl
              by_cases hlt : i < nx.length
              · rw [List.getElem?_append_left hlt] at hi
                exact .inl ⟨hi, hno x (List.mem_of_getElem? hi)⟩
              · obtain rfl : i = nx.length := by omega
                simp at hi
                exact .inr ⟨rfl, by rw [← hi, endW_app]⟩
            intro i j x y hi hj he
            rcases hget i x hi with ⟨a1, a2⟩ | ⟨a1, a2⟩ <;> rcases hget j y hj with ⟨b1, b2⟩ | ⟨b1, b2⟩
            · exact H.uniq i j x y a1 b1 he
            · exact absurd (he.trans b2) a2
            · exact absurd (he.symm.trans a2) b2
            · omega
          · intro v
            simp only [List.mem_append, List.mem_singleton]
            rw [show (v ∈ fd ↔ _) from H.fd v]
            constructor
            · rintro (⟨x, hx, he⟩ | rfl)
              · exact ⟨x, .inl hx, he⟩
              · exact ⟨_, .inr rfl, endW_app _ _⟩
            · rintro ⟨x, hx | rfl, he⟩
              · exact .inl ⟨x, hx, he⟩
              · rw [endW_app] at he; exact .inr he.symm
        | some i =>
          obtain ⟨hi, hie⟩ := k2 i hh
          have hgi : nx[i]? = some (nx.getD i []) := by rw [List.getD_eq_getElem?_getD, List.getElem?_eq_getElem hi]; rfl
          obtain ⟨w1, v1, h1, h2, h3, h4, h5⟩ := H.good _ (List.mem_of_getElem? hgi)
          rw [h1, endW_app] at hie
          subst hie
          have hw1 : w1.length = n := hC (w1, v1) (List.mem_append_left _ h2)
          dsimp only
          rw [h1, ltL_ext (hcl.trans hw1.symm)]
          by_cases hlt : ltL w0 w1 = true
          · rw [if_pos hlt]
            have hget : ∀ (j : Nat) (x : List Int), (nx.set i (w0 ++ [v1]))[j]? = some x → (j ≠ i ∧ nx[j]? = some x ∧ endW x ≠ v1) ∨ (j = i ∧ x = w0 ++ [v1]) := fun j x hj => by
              by_cases ej : j = i
              · subst ej
                rw [List.getElem?_set_self hi] at hj
                exact .inr ⟨rfl, (Option.some.inj hj).symm⟩
              · rw [List.getElem?_set_ne (fun e => ej e.symm)] at hj
                exact .inl ⟨ej, hj, fun e => ej (H.uniq j i x _ hj hgi (by rw [h1, endW_app]; exact e))⟩
            refine ⟨hnone, hbest, ?_, ?_, ?_, ?_⟩
            · intro w v hv g1 g2
              by_cases ev : v = v1
              · subst ev
                exact ⟨w0 ++ [v], List.mem_of_getElem? (List.getElem?_set_self hi), endW_app _ _⟩
              · rcases List.mem_append.1 hv with h | h
                · obtain ⟨x, hx, he⟩ := H.all w v h g1 g2
                  obtain ⟨j, hj⟩ := List.mem_iff_getElem?.1 hx
                  refine ⟨x, List.mem_of_getElem? (i := j) ?_, he⟩
                  rw [List.getElem?_set_ne (fun e => ?_)]
                  · exact hj
                  · subst e
                    rw [hgi] at hj
                    injection hj with hj
                    rw [← hj, h1, endW_app] at he
                    exact ev he.symm
                · simp at h; exact absurd h.2 ev
            · intro x hx
              obtain ⟨j, hj⟩ := List.mem_iff_getElem?.1 hx
              rcases hget j x hj with ⟨_, a1, a2⟩ | ⟨_, rfl⟩
              · obtain ⟨w, v, g1, g2, g3, g4, g5⟩ := H.good x (List.mem_of_getElem? a1)
                refine ⟨w, v, g1, List.mem_append_left _ g2, g3, g4, fun w' hw' => ?_⟩
                rcases List.mem_append.1 hw' with h' | h'
                · exact g5 w' h'
                · simp at h'
                  rw [g1, endW_app] at a2
                  exact absurd h'.2 a2
              · refine ⟨w0, v1, rfl, by simp, e1, e2, fun w' hw' => ?_⟩
                rcases List.mem_append.1 hw' with h' | h'
                · cases e : ltL w' w0 with
                  | false => rfl
                  | true => have := ltL_trans e hlt; rw [h5 w' h'] at this; cases this
                · simp at h'; rw [h']; exact ltL_irr _
            · intro a c x y ha hc he
              rcases hget a x ha with ⟨a0, a1, a2⟩ | ⟨a1, rfl⟩ <;> rcases hget c y hc with ⟨b0, b1, b2⟩ | ⟨b1, rfl⟩
              · exact H.uniq a c x y a1 b1 he
              · rw [endW_app] at he; exact absurd he a2
              · rw [endW_app] at he; exact absurd he.symm b2
              · omega
            · intro v
              rw [show (v ∈ fd ↔ _) from H.fd v]
              constructor
              · rintro ⟨x, hx, he⟩
                by_cases ev : v = v1
                · exact ⟨w0 ++ [v1], List.mem_of_getElem? (List.getElem?_set_self hi), by rw [endW_app, ev]⟩
                · obtain ⟨j, hj⟩ := List.mem_iff_getElem?.1 hx
                  refine ⟨x, List.mem_of_getElem? (i := j) ?_, he⟩
                  rw [List.getElem?_set_ne (fun e => ?_)]
                  · exact hj
                  · subst e
                    rw [hgi] at hj
                    injection hj with hj
                    rw [← hj, h1, endW_app] at he
                    exact ev he.symm
              · rintro ⟨x, hx, he⟩
                obtain ⟨j, hj⟩ := List.mem_iff_getElem?.1 hx
                rcases hget j x hj with ⟨_, a1, _⟩ | ⟨_, rfl⟩
                · exact ⟨x, List.mem_of_getElem? a1, he⟩
                · rw [endW_app] at he
                  exact ⟨_, List.mem_of_getElem? hgi, by rw [h1, endW_app, he]⟩
          · rw [if_neg hlt]
            have hl0 : ltL w0 w1 = false := by simpa using hlt
            refine ⟨hnone, hbest, ?_, ?_, H.uniq, H.fd⟩
            · intro w v hv g1 g2
              rcases List.mem_append.1 hv with h | h
              · exact H.all w v h g1 g2
              · simp at h
                exact ⟨_, List.mem_of_getElem? hgi, by rw [h1, endW_app, h.2]⟩
            · intro x hx
              obtain ⟨w, v, g1, g2, g3, g4, g5⟩ := H.good x hx
              refine ⟨w, v, g1, List.mem_append_left _ g2, g3, g4, fun w' hw' => ?_⟩
              rcases List.mem_append.1 hw' with h' | h'
              · exact g5 w' h'
              · simp at h'
                obtain ⟨rfl, rfl⟩ := h'
                obtain ⟨j, hj⟩ := List.mem_iff_getElem?.1 hx
                have ej := H.uniq j i x _ hj hgi (by rw [g1, h1, endW_app, endW_app])
                subst ej
                rw [hgi] at hj
                injection hj with hj
                rw [h1, g1] at hj
                obtain ⟨e3, _⟩ := List.append_inj' hj rfl
                rw [← e3]
                exact hl0
/- both find the same -/
section
variable {next : Int → List Int} {edges : List (Int × Int)} {start : Int}
theorem cand_iff {ws : List (List Int)} {w : List Int} {v : Int} : (w, v) ∈ candR edges ws ↔ w ∈ ws ∧ (endW w, v) ∈ edges := by
  unfold candR candW
  simp only [List.mem_flatMap, List.mem_map, List.mem_filter, decide_eq_true_eq]
  constructor
  · rintro ⟨w', h1, e, ⟨h2, h3⟩, h4⟩
    injection h4 with h4 h5
    subst h4 h5
    rw [← h3]
    exact ⟨h1, h2⟩
  · rintro ⟨h1, h2⟩
    exact ⟨w, h1, (endW w, v), ⟨h2, rfl⟩, rfl⟩
theorem expP_iff : ∀ {ws : List (List Int)} {met : List Int} {x : List Int}, x ∈ expP next ws met ↔ ∃ xs w bs v, ws = xs ++ w :: bs ∧ x = w ++ [v] ∧ v ∈ next (endW w) ∧ v ∉ met ∧ ∀ a ∈ xs, v ∉ next (endW a)
  | [], met, x => by
    simp only [expP, List.not_mem_nil, false_iff]
    rintro ⟨xs, w, bs, v, h, _⟩
    simp at h
  | w0 :: ws, met, x => by
    unfold expP
    rw [List.mem_append, expP_iff (ws := ws)]
    constructor
    · rintro (h | ⟨xs, w, bs, v, h1, h2, h3, h4, h5⟩)
      · obtain ⟨v, hv, rfl⟩ := List.mem_map.1 h
        rw [List.mem_filter, decide_eq_true_eq] at hv
        exact ⟨[], w0, ws, v, rfl, rfl, hv.1, hv.2, fun a ha => by cases ha⟩
      · rw [List.mem_append, not_or, List.mem_filter, decide_eq_true_eq] at h4
        refine ⟨w0 :: xs, w, bs, v, by rw [h1]; rfl, h2, h3, h4.1, fun a ha => ?_⟩
        rcases List.mem_cons.1 ha with rfl | ha
        · exact fun hv => h4.2 ⟨hv, h4.1⟩
        · exact h5 a ha
    · rintro ⟨xs, w, bs, v, h1, h2, h3, h4, h5⟩
      cases xs with
      | nil =>
        simp only [List.nil_append, List.cons.injEq] at h1
        obtain ⟨rfl, rfl⟩ := h1
        exact .inl (List.mem_map.2 ⟨v, List.mem_filter.2 ⟨h3, decide_eq_true h4⟩, h2.symm⟩)
      | cons a xs =>
        simp only [List.cons_append, List.cons.injEq] at h1
        obtain ⟨rfl, rfl⟩ := h1
        refine .inr ⟨xs, w, bs, v, rfl, h2, h3, ?_, fun a ha => h5 a (List.mem_cons_of_mem _ ha)⟩
        rw [List.mem_append, not_or, List.mem_filter]
        exact ⟨h4, fun h => h5 w0 (List.mem_cons_self ..) h.1⟩
theorem metP_iff : ∀ {ws : List (List Int)} {met : List Int} {v : Int}, v ∈ metP next ws met ↔ v ∈ met ∨ ∃ w ∈ ws, v ∈ next (endW w)
  | [], met, v => by simp [metP]
  | w0 :: ws, met, v => by
    unfold metP
    rw [metP_iff (ws := ws), List.mem_append, List.mem_filter, decide_eq_true_eq]
    constructor
    · rintro ((h | h) | ⟨w, h1, h2⟩)
      · exact .inl h
      · exact .inr ⟨w0, List.mem_cons_self .., h.1⟩
      · exact .inr ⟨w, List.mem_cons_of_mem _ h1, h2⟩
    · rintro (h | ⟨w, h1, h2⟩)
      · exact .inl (.inl h)
      · rcases List.mem_cons.1 h1 with rfl | h1
        · by_cases hv : v ∈ met
          · exact .inl (.inl hv)
          · exact .inl (.inr ⟨h2, hv⟩)
        · exact .inr ⟨w, h1, h2⟩
structure LvRel (start : Int) (n : Nat) (ws wr : List (List Int)) (mp mr : List Int) : Prop where
  mem : ∀ x, x ∈ wr ↔ x ∈ ws
  len : ∀ x ∈ ws, x.length = n
  sorted : ws.Pairwise (fun a b => ltL a b = true)
  met : ∀ v, v ∈ mr ↔ v = start ∨ v ∈ mp
theorem sorted_first {ws xs bs : List (List Int)} {w : List Int} (h : ws = xs ++ w :: bs) (hs : ws.Pairwise (fun a b => ltL a b = true)) {p : List Int → Prop} (hp : ∀ a ∈ xs, ¬ p a) {x : List Int} (hx : x ∈ ws) (hpx : p x) : ltL x w = false := by
  subst h
  rcases List.mem_append.1 hx with h | h
  · exact absurd hpx (hp x h)
  · rcases List.mem_cons.1 h with rfl | h
    · exact ltL_irr _
    · have := (List.pairwise_append.1 hs).2.1
      exact ltL_asymm ((List.pairwise_cons.1 this).1 x h)
theorem lkFirst {ws : List (List Int)} (hs : ws.Pairwise (fun a b => ltL a b = true)) {n : Nat} (hl : ∀ x ∈ ws, x.length = n) {p : List Int → Prop} {w : List Int} (hw : w ∈ ws) (hm : ∀ x ∈ ws, p x → ltL x w = false) : ∃ xs bs, ws = xs ++ w :: bs ∧ ∀ a ∈ xs, ¬ p a := by
  obtain ⟨xs, bs, rfl⟩ := List.append_of_mem hw
  refine ⟨xs, bs, rfl, fun a ha hpa => ?_⟩
  have h1 := hm a (List.mem_append_left _ ha) hpa
  have h2 := (List.pairwise_append.1 hs).2.2 a ha w (List.mem_cons_self ..)
  rw [h1] at h2
  cases h2
theorem expP_sorted (hn : ∀ u, (next u).Pairwise (· < ·)) {n : Nat} : ∀ {ws : List (List Int)} {met : List Int}, (∀ x ∈ ws, x.length = n) → ws.Pairwise (fun a b => ltL a b = true) → (expP next ws met).Pairwise (fun a b => ltL a b = true)
  | [], _, _, _ => List.Pairwise.nil
  | w0 :: ws, met, hl, hs => by
    unfold expP
    obtain ⟨h1, h2⟩ := List.pairwise_cons.1 hs
    refine List.pairwise_append.2 ⟨?_, expP_sorted hn (fun x hx => hl x (List.mem_cons_of_mem _ hx)) h2, fun a ha b hb => ?_⟩
    · refine List.pairwise_map.2 (((hn (endW w0)).filter _).imp fun {a b} h => ?_)
      rw [ltL_same]
      simp [ltL]; omega
    · obtain ⟨v, _, rfl⟩ := List.mem_map.1 ha
      obtain ⟨xs, w, bs, v', e, rfl, _⟩ := expP_iff.1 hb
      have hw : w ∈ ws := by rw [e]; simp
      exact ltL_app _ _ ((hl w0 (List.mem_cons_self ..)).trans (hl w (List.mem_cons_of_mem _ hw)).symm) (h1 w hw)
theorem circ_same (hnx : ∀ u v, v ∈ next u ↔ (u, v) ∈ edges) (hn : ∀ u, (next u).Pairwise (· < ·)) : ∀ (f n : Nat) (ws wr : List (List Int)) (mp mr : List Int), LvRel start n ws wr mp mr → circR edges start f wr mr = circP next start f ws mp
  | 0, _, _, _, _, _, _ => rfl
  | f + 1, n, ws, wr, mp, mr, H => by
    unfold circR circP
    by_cases e : ws = []
    · have e2 : wr = [] := by
        cases wr with
        | nil => rfl
        | cons x l => have := (H.mem x).1 (List.mem_cons_self ..); rw [e] at this; cases this
      rw [if_pos e, if_pos e2]
    · have e2 : wr ≠ [] := fun e2 => e (by
        cases ws with
        | nil => rfl
        | cons x l => have := (H.mem x).2 (List.mem_cons_self ..); rw [e2] at this; cases this)
      rw [if_neg e, if_neg e2]
      have L := lv_ok start mr n (candR edges wr) (fun c hc => H.len _ ((H.mem _).1 (cand_iff.1 (show (c.1, c.2) ∈ candR edges wr from hc)).1))
      change LvOk start mr n (candR edges wr) (levR edges start mr wr) at L
      have hc : ∀ w v, (w, v) ∈ candR edges wr ↔ w ∈ ws ∧ v ∈ next (endW w) := fun w v => by rw [cand_iff, H.mem, hnx]
      cases hb : backP next start ws with
      | some w =>
        obtain ⟨hp, xs, bs, e3, h1⟩ := List.find?_eq_some_iff_append.1 hb
        have hp : start ∈ next (endW w) := by simpa using hp
        have hw : w ∈ ws := by rw [e3]; simp
        cases hr : (levR edges start mr wr).1 with
        | none => exact absurd ((hc w start).2 ⟨hw, hp⟩) (L.none_.1 hr w)
        | some b =>
          obtain ⟨g1, g2⟩ := L.best b hr
          obtain ⟨g3, g4⟩ := (hc b start).1 g1
          have k1 := sorted_first e3 H.sorted (p := fun a => start ∈ next (endW a)) (fun a ha => by have := h1 a ha; simpa using this) g3 g4
          have k2 := g2 w ((hc w start).2 ⟨hw, hp⟩)
          have : w = b := by
            apply Classical.byContradiction
            intro hne
            rcases ltL_total ((H.len w hw).trans (H.len b g3).symm) hne with h | h
            · rw [h] at k2; cases k2
            · rw [h] at k1; cases k1
          rw [this]
      | none =>
        have hno : ∀ w ∈ ws, start ∉ next (endW w) := fun w hw => by
          have := List.find?_eq_none.1 hb w hw
          simpa using this
        have hr : (levR edges start mr wr).1 = none := L.none_.2 (fun w hw => hno w ((hc w start).1 hw).1 ((hc w start).1 hw).2)
        rw [hr]
        dsimp only
        refine circ_same hnx hn f (n + 1) (expP next ws mp) _ (metP next ws mp) _ ⟨fun x => ?_, fun x hx => ?_, expP_sorted hn H.len H.sorted, fun v => ?_⟩
        · rw [expP_iff]
          constructor
          · intro hx
            obtain ⟨w, v, h1, h2, h3, h4, h5⟩ := L.good x hx
            obtain ⟨h6, h7⟩ := (hc w v).1 h2
            obtain ⟨xs, bs, h8, h9⟩ := lkFirst H.sorted H.len (p := fun a => v ∈ next (endW a)) h6 (fun x hx hv => h5 x ((hc x v).2 ⟨hx, hv⟩))
            exact ⟨xs, w, bs, v, h8, h1, h7, fun hv => h4 ((H.met v).2 (.inr hv)), h9⟩
          · rintro ⟨xs, w, bs, v, h1, h2, h3, h4, h5⟩
            have hw : w ∈ ws := by rw [h1]; simp
            have hvs : v ≠ start := fun e => hno w hw (e ▸ h3)
            have hvm : v ∉ mr := fun hv => ((H.met v).1 hv).elim hvs h4
            obtain ⟨y, hy, he⟩ := L.all w v ((hc w v).2 ⟨hw, h3⟩) hvs hvm
            obtain ⟨w2, v2, g1, g2, g3, g4, g5⟩ := L.good y hy
            rw [g1, endW_app] at he
            subst he
            obtain ⟨g6, g7⟩ := (hc w2 v2).1 g2
            have k1 := sorted_first h1 H.sorted (p := fun a => v2 ∈ next (endW a)) h5 g6 g7
            have k2 := g5 w ((hc w v2).2 ⟨hw, h3⟩)
            have : w = w2 := by
              apply Classical.byContradiction
              intro hne
              rcases ltL_total ((H.len w hw).trans (H.len w2 g6).symm) hne with h | h
              · rw [h] at k2; cases k2
              · rw [h] at k1; cases k1
            rw [h2, this, ← g1]
            exact hy
        · obtain ⟨xs, w, bs, v, h1, h2, _⟩ := expP_iff.1 hx
          rw [h2, List.length_append, List.length_singleton, H.len w (by rw [h1]; simp)]
        · rw [List.mem_append, H.met, L.fd, metP_iff]
          constructor
          · rintro ((h | h) | ⟨x, hx, he⟩)
            · exact .inl h
            · exact .inr (.inl h)
            · obtain ⟨w, v', h1, h2, _⟩ := L.good x hx
              rw [h1, endW_app] at he
              subst he
              obtain ⟨h6, h7⟩ := (hc w v').1 h2
              exact .inr (.inr ⟨w, h6, h7⟩)
          · rintro (h | h | ⟨w, h1, h2⟩)
            · exact .inl (.inl h)
            · exact .inl (.inr h)
            · by_cases hv : v ∈ mr
              · exact .inl ((H.met v).1 hv)
              · have hvs : v ≠ start := fun e => hno w h1 (e ▸ h2)
                exact .inr (L.all w v ((hc w v).2 ⟨h1, h2⟩) hvs hv)
theorem LvRel.first (s : Int) : LvRel s 1 [[s]] [[s]] [] [s] := ⟨fun x => Iff.rfl, (by simp), (by simp), (by simp)⟩
/-- how many numbers can still be met -/
def unmet (edges : List (Int × Int)) (met : List Int) : Nat := (edges.filter fun e => decide (e.2 ∉ met)).length
theorem filter_lt {α : Type} {p q : α → Bool} (hpq : ∀ x, p x = true → q x = true) : ∀ {l : List α}, (∃ x ∈ l, q x = true ∧ p x = false) → (l.filter p).length < (l.filter q).length
  | [], h => by obtain ⟨x, hx, _⟩ := h; cases hx
  | a :: l, h => by
    have hle : ∀ l : List α, (l.filter p).length ≤ (l.filter q).length := by
      intro l
      induction l with
      | nil => simp
      | cons a l ih =>
        cases hp : p a with
        | true => simp [List.filter_cons, hp, hpq a hp]; omega
        | false =>
          cases hq : q a with
          | true => simp [List.filter_cons, hp, hq]; omega
          | false => simp [List.filter_cons, hp, hq]; omega
    obtain ⟨x, hx, h1, h2⟩ := h
    rcases List.mem_cons.1 hx with rfl | hx
    · have := hle l
      simp [List.filter_cons, h1, h2]; omega
    · have ih := filter_lt hpq ⟨x, hx, h1, h2⟩
      cases hp : p a with
      | true => simp [List.filter_cons, hp, hpq a hp]; omega
      | false =>
        cases hq : q a with
        | true => simp [List.filter_cons, hp, hq]; omega
        | false => simp [List.filter_cons, hp, hq]; omega
theorem unmet_lt (hnx : ∀ u v, v ∈ next u ↔ (u, v) ∈ edges) {ws : List (List Int)} {met : List Int} (h : expP next ws met ≠ []) : unmet edges (metP next ws met) < unmet edges met := by
  obtain ⟨x, hx⟩ := List.exists_mem_of_ne_nil _ h
  obtain ⟨xs, w, bs, v, h1, h2, h3, h4, h5⟩ := expP_iff.1 hx
  have hw : w ∈ ws := by rw [h1]; simp
  unfold unmet
  refine filter_lt (fun e he => ?_) ⟨(endW w, v), (hnx _ _).1 h3, decide_eq_true h4, decide_eq_false (fun hn => hn (metP_iff.2 (.inr ⟨w, hw, h3⟩)))⟩
  rw [decide_eq_true_eq] at he ⊢
  exact fun hm => he (metP_iff.2 (.inl hm))
end
end
end Go.Proofs.YtaciedooeeklpaaDoor
