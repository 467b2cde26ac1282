/- Arrays, the plain part: which block is wrong, where an index stands, what a key put there gives. -/
import Derived.Test.YtgdbhmdhonnmgaaDoorProg
namespace Go.Proofs.YtgdbhmdhonnmgaaDoor
set_option linter.unusedVariables false
set_option maxRecDepth 20000
set_option linter.unusedSimpArgs false

def keyB (x : Int) : Bool := decide (1 ≤ x ∧ x ≤ 1000000)
def roomB (b : Int) : Bool := decide (2 ≤ b ∧ b ≤ 50)
theorem keyB_t {x : Int} (h : keyB x = true) : 1 ≤ x ∧ x ≤ 1000000 := by simpa [keyB] using h
theorem roomB_t {x : Int} (h : roomB x = true) : 2 ≤ x ∧ x ≤ 50 := by simpa [roomB] using h

/-- block i of blocks, key k of a block -/
def nthA (LL : List (List Int)) (i : Nat) : List Int := LL.getD i []
def nthI (l : List Int) (i : Nat) : Int := l.getD i 0
theorem nthA_drop {LL : List (List Int)} {i : Nat} (h : i < LL.length) : LL.drop i = nthA LL i :: LL.drop (i + 1) := by
  rw [List.drop_eq_getElem_cons h]; simp [nthA, List.getD_eq_getElem?_getD, h]
theorem nthI_drop {l : List Int} {i : Nat} (h : i < l.length) : l.drop i = nthI l i :: l.drop (i + 1) := by
  rw [List.drop_eq_getElem_cons h]; simp [nthI, List.getD_eq_getElem?_getD, h]
theorem nthA_take {LL : List (List Int)} {i : Nat} (h : i < LL.length) : LL.take (i + 1) = LL.take i ++ [nthA LL i] := by
  rw [List.take_succ_eq_append_getElem h]; simp [nthA, List.getD_eq_getElem?_getD, h]
theorem nthI_take {l : List Int} {i : Nat} (h : i < l.length) : l.take (i + 1) = l.take i ++ [nthI l i] := by
  rw [List.take_succ_eq_append_getElem h]; simp [nthI, List.getD_eq_getElem?_getD, h]
theorem nthA_mem {LL : List (List Int)} {i : Nat} (h : i < LL.length) : nthA LL i ∈ LL := by
  simp [nthA, List.getD_eq_getElem?_getD, h]
theorem nthI_mem {l : List Int} {i : Nat} (h : i < l.length) : nthI l i ∈ l := by
  simp [nthI, List.getD_eq_getElem?_getD, h]
theorem mem_nthA {LL : List (List Int)} {l : List Int} (h : l ∈ LL) : ∃ i, i < LL.length ∧ nthA LL i = l := by
  obtain ⟨i, hi, e⟩ := List.getElem_of_mem h
  exact ⟨i, hi, by simp [nthA, List.getD_eq_getElem?_getD, hi, e]⟩
theorem mem_nthI {l : List Int} {x : Int} (h : x ∈ l) : ∃ i, i < l.length ∧ nthI l i = x := by
  obtain ⟨i, hi, e⟩ := List.getElem_of_mem h
  exact ⟨i, hi, by simp [nthI, List.getD_eq_getElem?_getD, hi, e]⟩
theorem flat_take {LL : List (List Int)} {i : Nat} (h : i < LL.length) : (LL.take (i + 1)).flatten = (LL.take i).flatten ++ nthA LL i := by
  rw [nthA_take h]; simp
theorem flat_drop {LL : List (List Int)} {i : Nat} (h : i < LL.length) : (LL.drop i).flatten = nthA LL i ++ (LL.drop (i + 1)).flatten := by
  rw [nthA_drop h]; simp
theorem split_at {LL : List (List Int)} {i : Nat} (h : i < LL.length) : LL = LL.take i ++ nthA LL i :: LL.drop (i + 1) := by
  rw [← nthA_drop h, List.take_append_drop]

/-- the first wrong place of a block, when some keys were met -/
def rowW : Nat → List Int → List Int → Option (Nat × Int)
  | _, [], _ => none
  | k, x :: r, met => if keyB x = false ∨ x ∈ met then some (k, 12) else if met.length = 500 then some (k, 4) else rowW (k + 1) r (met ++ [x])
def scanW (b : Int) : Nat → List (List Int) → List Int → Int × Int × Int
  | _, [], _ => (-1, -1, 0)
  | i, l :: r, met => if l = [] then ((i : Int), 0, 11) else if b < l.length then ((i : Int), b, 11) else
    match rowW 0 l met with
    | some (k, e) => ((i : Int), (k : Int), e)
    | none => scanW b (i + 1) r (met ++ l)
def wrongF (b : Int) (LL : List (List Int)) : Int × Int × Int := if roomB b = false then (-1, -1, 7) else scanW b 0 LL []
/-- how a block's row goes on -/
def contW (b : Int) (i : Nat) (r : List (List Int)) (met : List Int) : Option (Nat × Int) → Int × Int × Int
  | some (k, e) => ((i : Int), (k : Int), e)
  | none => scanW b (i + 1) r met
theorem wrongF_room {b : Int} {LL : List (List Int)} (h : roomB b = false) : wrongF b LL = (-1, -1, 7) := if_pos h
theorem wrongF_scan {b : Int} {LL : List (List Int)} (h : roomB b = true) : wrongF b LL = scanW b 0 LL [] := if_neg (by simp [h])
theorem scanW_end {b : Int} {i : Nat} {met : List Int} : scanW b i [] met = (-1, -1, 0) := rfl
theorem scanW_empty {b : Int} {i : Nat} {l : List Int} {r : List (List Int)} {met : List Int} (h : l = []) : scanW b i (l :: r) met = ((i : Int), 0, 11) := if_pos h
theorem scanW_long {b : Int} {i : Nat} {l : List Int} {r : List (List Int)} {met : List Int} (h : l ≠ []) (h1 : b < l.length) : scanW b i (l :: r) met = ((i : Int), b, 11) := by
  unfold scanW; rw [if_neg h, if_pos h1]
theorem scanW_row {b : Int} {i : Nat} {l : List Int} {r : List (List Int)} {met : List Int} (h : l ≠ []) (h1 : ¬ b < l.length) : scanW b i (l :: r) met = contW b i r (met ++ l) (rowW 0 l met) := by
  rw [scanW, if_neg h, if_neg h1]
  cases rowW 0 l met with
  | none => rfl
  | some x => rfl
theorem rowW_bad {k : Nat} {x : Int} {r met : List Int} (h : keyB x = false ∨ x ∈ met) : rowW k (x :: r) met = some (k, 12) := if_pos h
theorem rowW_full {k : Nat} {x : Int} {r met : List Int} (h : ¬ (keyB x = false ∨ x ∈ met)) (h1 : met.length = 500) : rowW k (x :: r) met = some (k, 4) := by
  unfold rowW; rw [if_neg h, if_pos h1]
theorem rowW_next {k : Nat} {x : Int} {r met : List Int} (h : ¬ (keyB x = false ∨ x ∈ met)) (h1 : ¬ met.length = 500) : rowW k (x :: r) met = rowW (k + 1) r (met ++ [x]) := by
  rw [rowW, if_neg h, if_neg h1]

/-- right keys, all different, not too many -/
def KeysOk (l : List Int) : Prop := (∀ x ∈ l, keyB x = true) ∧ l.Nodup ∧ l.length ≤ 500
theorem KeysOk.nil : KeysOk [] := ⟨fun x h => (by cases h), List.nodup_nil, by simp⟩
theorem KeysOk.left {a b : List Int} (h : KeysOk (a ++ b)) : KeysOk a :=
  ⟨fun x hx => h.1 x (by simp [hx]), (List.nodup_append.1 h.2.1).1, by have := h.2.2; simp at this; omega⟩
theorem rowW_ok : ∀ (l : List Int) (k : Nat) (met : List Int), KeysOk met → (rowW k l met = none ↔ KeysOk (met ++ l))
  | [], k, met, hm => by simp [rowW, hm]
  | x :: r, k, met, hm => by
    have e : met ++ x :: r = (met ++ [x]) ++ r := by simp
    by_cases h : keyB x = false ∨ x ∈ met
    · rw [rowW_bad h]
      refine ⟨fun h => by simp at h, fun hk => ?_⟩
      rw [e] at hk
      have hk := hk.left
      rcases h with h | h
      · have := hk.1 x (by simp); simp [h] at this
      · have := (List.nodup_append.1 hk.2.1).2.2 x h x (by simp); exact absurd rfl this
    · by_cases h1 : met.length = 500
      · rw [rowW_full h h1]
        refine ⟨fun h => by simp at h, fun hk => ?_⟩
        have := hk.2.2; simp at this; omega
      · rw [rowW_next h h1, rowW_ok r (k + 1) (met ++ [x]), e]
        simp only [not_or, Bool.not_eq_false] at h
        refine ⟨fun y hy => ?_, ?_, by have := hm.2.2; simp; omega⟩
        · simp at hy
          rcases hy with hy | rfl
          · exact hm.1 y hy
          · exact h.1
        · rw [List.nodup_append]
          refine ⟨hm.2.1, by simp, fun a ha b hb => ?_⟩
          simp at hb
          subst hb
          exact fun e => h.2 (e ▸ ha)
/-- blocks of so many keys -/
def BlocksOk (b : Int) (LL : List (List Int)) : Prop := ∀ l ∈ LL, l ≠ [] ∧ (l.length : Int) ≤ b
theorem rowW_code : ∀ (l : List Int) (k : Nat) (met : List Int) (p : Nat × Int), rowW k l met = some p → p.2 ≠ 0
  | [], k, met, p, h => by simp [rowW] at h
  | x :: r, k, met, p, h => by
    by_cases h1 : keyB x = false ∨ x ∈ met
    · rw [rowW_bad h1] at h; simp at h; rw [← h]; simp
    · by_cases h2 : met.length = 500
      · rw [rowW_full h1 h2] at h; simp at h; rw [← h]; simp
      · rw [rowW_next h1 h2] at h; exact rowW_code r _ _ p h
theorem scanW_ok (b : Int) : ∀ (LL : List (List Int)) (i : Nat) (met : List Int), KeysOk met → ((scanW b i LL met).2.2 = 0 ↔ BlocksOk b LL ∧ KeysOk (met ++ LL.flatten))
  | [], i, met, hm => by simp [scanW, BlocksOk, hm]
  | l :: r, i, met, hm => by
    by_cases h : l = []
    · rw [scanW_empty h]
      refine ⟨fun h => by simp at h, fun ⟨hb, _⟩ => absurd h (hb l (by simp)).1⟩
    · by_cases h1 : b < l.length
      · rw [scanW_long h h1]
        refine ⟨fun h => by simp at h, fun ⟨hb, _⟩ => ?_⟩
        have := (hb l (by simp)).2
        omega
      · rw [scanW_row h h1]
        have e : met ++ (l :: r).flatten = (met ++ l) ++ r.flatten := by simp
        cases hr : rowW 0 l met with
        | some p =>
          have := rowW_code l 0 met p hr
          refine ⟨fun h => absurd h this, fun ⟨_, hk⟩ => ?_⟩
          rw [e] at hk
          have := (rowW_ok l 0 met hm).2 hk.left
          rw [hr] at this
          cases this
        | none =>
          have hk := (rowW_ok l 0 met hm).1 hr
          rw [contW, scanW_ok b r (i + 1) (met ++ l) hk, e]
          refine ⟨fun ⟨h2, h3⟩ => ⟨fun x hx => ?_, h3⟩, fun ⟨h2, h3⟩ => ⟨fun x hx => h2 x (by simp [hx]), h3⟩⟩
          rcases List.mem_cons.1 hx with rfl | hx
          · exact ⟨h, by omega⟩
          · exact h2 x hx
/-- an array -/
structure ArOk (b : Int) (LL : List (List Int)) : Prop where
  room : roomB b = true
  blocks : BlocksOk b LL
  keys : KeysOk LL.flatten
def validF (b : Int) (LL : List (List Int)) : Bool := decide ((wrongF b LL).2.2 = 0)
theorem validF_iff {b : Int} {LL : List (List Int)} : validF b LL = true ↔ ArOk b LL := by
  unfold validF
  rw [decide_eq_true_eq]
  cases h : roomB b with
  | false =>
    rw [wrongF_room h]
    exact ⟨fun h => by simp at h, fun h' => by have := h'.room; simp [h] at this⟩
  | true =>
    rw [wrongF_scan h, scanW_ok b LL 0 [] KeysOk.nil]
    simp only [List.nil_append]
    exact ⟨fun ⟨a, c⟩ => ⟨h, a, c⟩, fun h' => ⟨h'.blocks, h'.keys⟩⟩

/-- index stands in block q at place p; the index behind the last key stands behind the last key of the last block -/
def Spot (LL : List (List Int)) (index q p : Nat) : Prop :=
  q < LL.length ∧ (LL.take q).flatten.length + p = index ∧ (p < (nthA LL q).length ∨ (q + 1 = LL.length ∧ p = (nthA LL q).length))
theorem spot_ex (LL : List (List Int)) (hne : LL ≠ []) (index : Nat) (h : index ≤ LL.flatten.length) : ∃ q p, Spot LL index q p := by
  induction LL generalizing index with
  | nil => exact absurd rfl hne
  | cons l r ih =>
    by_cases h1 : index < l.length
    · exact ⟨0, index, by simp, by simp, .inl (by simpa [nthA] using h1)⟩
    · by_cases hr : r = []
      · subst hr
        simp at h
        exact ⟨0, index, by simp, by simp, .inr ⟨by simp, by simp [nthA]; omega⟩⟩
      · obtain ⟨q, p, h2, h3, h4⟩ := ih hr (index - l.length) (by rw [List.flatten_cons, List.length_append] at h; omega)
        refine ⟨q + 1, p, by simp; omega, by simp at h3 ⊢; omega, ?_⟩
        rcases h4 with h4 | ⟨h4, h5⟩
        · exact .inl (by simpa [nthA] using h4)
        · exact .inr ⟨by simp; omega, by simpa [nthA] using h5⟩
/-- a block that may be one key too long, parted -/
def splitF (b : Int) (l : List Int) : List (List Int) := if (l.length : Int) ≤ b then [l] else [l.take ((b + 2) / 2).toNat, l.drop ((b + 2) / 2).toNat]
def insI (l : List Int) (p : Nat) (k : Int) : List Int := l.take p ++ k :: l.drop p
def putAt (b : Int) (LL : List (List Int)) (q p : Nat) (k : Int) : List (List Int) := LL.take q ++ splitF b (insI (nthA LL q) p k) ++ LL.drop (q + 1)
theorem splitF_flat (b : Int) (l : List Int) : (splitF b l).flatten = l := by
  unfold splitF; split <;> simp
theorem insI_length {l : List Int} {p : Nat} {k : Int} (h : p ≤ l.length) : (insI l p k).length = l.length + 1 := by simp [insI]; omega
theorem splitF_ok {b : Int} {l : List Int} (hb : roomB b = true) (hl : (l.length : Int) ≤ b + 1) (h0 : l ≠ []) : BlocksOk b (splitF b l) := by
  have hb := roomB_t hb
  unfold splitF
  split
  · intro x hx; simp at hx; subst hx; exact ⟨h0, by omega⟩
  · intro x hx
    simp at hx
    rcases hx with rfl | rfl
    · refine ⟨fun e => ?_, by rw [List.length_take]; omega⟩
      have := congrArg List.length e
      rw [List.length_take, List.length_nil] at this
      omega
    · refine ⟨fun e => ?_, by rw [List.length_drop]; omega⟩
      have := congrArg List.length e
      rw [List.length_drop, List.length_nil] at this
      omega
theorem putAt_flat {b : Int} {LL : List (List Int)} {index q p : Nat} {k : Int} (h : Spot LL index q p) : (putAt b LL q p k).flatten = LL.flatten.take index ++ k :: LL.flatten.drop index := by
  obtain ⟨h1, h2, h3⟩ := h
  have hp : p ≤ (nthA LL q).length := by omega
  have e : LL.flatten = (LL.take q).flatten ++ (nthA LL q ++ (LL.drop (q + 1)).flatten) := by
    conv => lhs; rw [split_at h1]
    simp
  unfold putAt
  rw [List.flatten_append, List.flatten_append, splitF_flat, e, ← h2]
  clear e h2 h3
  generalize (LL.take q).flatten = A
  generalize (LL.drop (q + 1)).flatten = B
  generalize nthA LL q = l at *
  rw [List.take_length_add_append, List.drop_length_add_append, List.take_append_of_le_length hp, List.drop_append_of_le_length hp]
  simp [insI]
theorem putAt_ok {b : Int} {LL : List (List Int)} {index q p : Nat} {k : Int} (h : Spot LL index q p) (hb : roomB b = true) (hL : BlocksOk b LL) : BlocksOk b (putAt b LL q p k) := by
  obtain ⟨h1, h2, h3⟩ := h
  have hq := hL _ (nthA_mem h1)
  intro l hl
  simp only [putAt, List.mem_append] at hl
  rcases hl with (hl | hl) | hl
  · exact hL l (List.mem_of_mem_take hl)
  · have e := insI_length (l := nthA LL q) (p := p) (k := k) (by omega)
    exact splitF_ok hb (by rw [e]; omega) (by rw [← List.length_pos_iff, e]; omega) l hl
  · exact hL l (List.mem_of_mem_drop hl)
end Go.Proofs.YtgdbhmdhonnmgaaDoor
