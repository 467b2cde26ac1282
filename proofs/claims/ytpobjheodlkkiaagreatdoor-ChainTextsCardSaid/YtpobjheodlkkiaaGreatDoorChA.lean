/- Rings in plain words: what Wrong tells, the ring of an owner and members. -/
import Derived.Test.YtpobjheodlkkiaaGreatDoorOps
namespace Go.Proofs.YtpobjheodlkkiaaGreatDoor
set_option linter.unusedVariables false
set_option maxRecDepth 20000
set_option linter.unusedSimpArgs false

/-- a link: its key, the next one, the one before, the owner -/
abbrev Lk := Int × Int × Int × Int
def nthL (l : List Lk) (i : Nat) : Lk := l.getD i (0, 0, 0, 0)
def nthI (l : List Int) (i : Nat) : Int := l.getD i 0
theorem nthL_some {l : List Lk} {i : Nat} (h : i < l.length) : l[i]? = some (nthL l i) := by simp [nthL, List.getD_eq_getElem?_getD, h]
theorem nthL_mem {l : List Lk} {i : Nat} (h : i < l.length) : nthL l i ∈ l := List.mem_of_getElem? (nthL_some h)
theorem nthI_some {l : List Int} {i : Nat} (h : i < l.length) : l[i]? = some (nthI l i) := by simp [nthI, List.getD_eq_getElem?_getD, h]
theorem nthI_mem {l : List Int} {i : Nat} (h : i < l.length) : nthI l i ∈ l := List.mem_of_getElem? (nthI_some h)
theorem nthI_get {l : List Int} {i : Nat} (h : i < l.length) : nthI l i = l[i] := by simp [nthI, List.getD_eq_getElem?_getD, h]
theorem nthL_get {l : List Lk} {i : Nat} (h : i < l.length) : nthL l i = l[i] := by simp [nthL, List.getD_eq_getElem?_getD, h]
theorem ext_nthL {l m : List Lk} (h : l.length = m.length) (ha : ∀ i, i < l.length → nthL l i = nthL m i) : l = m := by
  apply List.ext_getElem h
  intro i h1 h2
  rw [← nthL_get h1, ← nthL_get h2]
  exact ha i h1
theorem ext_nthI {l m : List Int} (h : l.length = m.length) (ha : ∀ i, i < l.length → nthI l i = nthI m i) : l = m := by
  apply List.ext_getElem h
  intro i h1 h2
  rw [← nthI_get h1, ← nthI_get h2]
  exact ha i h1
def ks (l : List Lk) : List Int := l.map (·.1)
theorem ks_len (l : List Lk) : (ks l).length = l.length := by simp [ks]
theorem ks_at {l : List Lk} {i : Nat} (h : i < l.length) : nthI (ks l) i = (nthL l i).1 := by
  unfold nthI nthL ks
  simp [List.getD_eq_getElem?_getD, h]
def keyB (n : Int) : Bool := decide (1 ≤ n ∧ n ≤ 1000000)
/-- the first place of a number; -1 if there is none -/
def idxI : List Int → Int → Int
  | [], _ => -1
  | x :: l, s => if x = s then 0 else if idxI l s < 0 then -1 else idxI l s + 1
theorem idxI_ge : ∀ (l : List Int) (s : Int), -1 ≤ idxI l s ∧ idxI l s < l.length
  | [], _ => by simp [idxI]
  | x :: l, s => by
    have := idxI_ge l s
    simp only [idxI, List.length_cons]
    split
    · omega
    · split <;> omega
theorem idxI_at : ∀ (l : List Int) (s : Int) (k : Nat), k < l.length → (∀ j : Nat, j < k → nthI l j ≠ s) → nthI l k = s → idxI l s = k
  | [], s, k, h, _, _ => by simp at h
  | y :: l, s, 0, h, _, hs => by
    have : y = s := hs
    simp [idxI, this]
  | y :: l, s, k + 1, h, hn, hs => by
    have h0 : y ≠ s := hn 0 (by omega)
    have := idxI_at l s k (by simpa using h) (fun j hj => hn (j + 1) (by omega)) hs
    simp only [idxI]
    rw [if_neg h0, if_neg (by omega), this]
    omega
theorem idxI_no : ∀ (l : List Int) (s : Int), (∀ j : Nat, j < l.length → nthI l j ≠ s) → idxI l s = -1
  | [], s, _ => rfl
  | y :: l, s, hn => by
    have h0 : y ≠ s := hn 0 (by simp)
    have := idxI_no l s (fun j hj => hn (j + 1) (by simpa using hj))
    simp only [idxI]
    rw [if_neg h0, if_pos (by omega)]
theorem idxI_val : ∀ (l : List Int) (s : Int), 0 ≤ idxI l s → nthI l (idxI l s).toNat = s
  | [], s, h => by simp [idxI] at h
  | y :: l, s, h => by
    simp only [idxI] at h ⊢
    by_cases h0 : y = s
    · rw [if_pos h0]; exact h0
    · rw [if_neg h0] at h ⊢
      by_cases h1 : idxI l s < 0
      · rw [if_pos h1] at h; omega
      · rw [if_neg h1]
        have := idxI_val l s (by omega)
        rw [show (idxI l s + 1).toNat = (idxI l s).toNat + 1 from by omega]
        exact this
theorem idxI_mem {l : List Int} {s : Int} : 0 ≤ idxI l s ↔ s ∈ l := by
  constructor
  · intro h
    have h1 := idxI_val l s h
    have h2 := (idxI_ge l s).2
    rw [← h1]
    exact nthI_mem (by omega)
  · intro h
    by_cases hn : 0 ≤ idxI l s
    · exact hn
    · exfalso
      obtain ⟨i, hi, e⟩ := List.getElem_of_mem h
      have key : ∀ (l : List Int) (i : Nat), i < l.length → nthI l i = s → 0 ≤ idxI l s := by
        intro l
        induction l with
        | nil => intro i hi; simp at hi
        | cons y l ih =>
          intro i hi e
          simp only [idxI]
          by_cases h0 : y = s
          · rw [if_pos h0]; omega
          · rw [if_neg h0]
            cases i with
            | zero => exact absurd e h0
            | succ i =>
              have := ih i (by simpa using hi) e
              rw [if_neg (by omega)]
              omega
      exact hn (key l i hi (by rw [nthI_get hi]; exact e))
/-- in a list of different numbers -/
theorem nodup_inj {l : List Int} (hd : l.Nodup) {i j : Nat} (hi : i < l.length) (hj : j < l.length) (h : nthI l i = nthI l j) : i = j := by
  rw [nthI_get hi, nthI_get hj] at h
  exact (List.getElem_inj hd).1 h
theorem idxI_nodup {l : List Int} (hd : l.Nodup) {k : Nat} (hk : k < l.length) : idxI l (nthI l k) = k :=
  idxI_at l _ k hk (fun j hj e => by
    have := nodup_inj hd (by omega) hk e
    omega) rfl
theorem idxI_eq {l : List Int} (hd : l.Nodup) {k : Nat} {s : Int} (hk : k < l.length) (h : nthI l k = s) : idxI l s = k := by rw [← h]; exact idxI_nodup hd hk

def firstI (p : Nat → Bool) (n : Nat) : Option Nat := (List.range n).find? p
theorem firstI_some {p : Nat → Bool} {n k : Nat} (hk : k < n) (hp : p k = true) (hb : ∀ j, j < k → p j = false) : firstI p n = some k := by
  unfold firstI
  rw [List.find?_range_eq_some]
  exact ⟨hp, List.mem_range.2 hk, fun j hj => by simp [hb j hj]⟩
theorem firstI_none {p : Nat → Bool} {n : Nat} (hb : ∀ j, j < n → p j = false) : firstI p n = none := by
  unfold firstI
  rw [List.find?_eq_none]
  intro j hj
  simp [hb j (List.mem_range.1 hj)]
theorem firstI_is {p : Nat → Bool} {n : Nat} (h : firstI p n = none) : ∀ j, j < n → p j = false := by
  unfold firstI at h
  rw [List.find?_eq_none] at h
  intro j hj
  simpa using h j (List.mem_range.2 hj)

def good1 (l : List Lk) (i : Nat) : Bool := keyB (nthL l i).1 && (decide (i = 0) || decide ((nthL l (i - 1)).1 < (nthL l i).1))
def own (l : List Lk) : Int := (nthL l 0).2.2.2
def good4 (l : List Lk) (i : Nat) : Bool := keyB (nthL l i).2.2.2 && decide ((nthL l i).2.2.2 = own l)
def nxt (l : List Lk) (i : Nat) : Int := idxI (ks l) (nthL l i).2.1
def nthN (l : List Nat) (i : Nat) : Nat := l.getD i 0
def lastN (l : List Nat) : Nat := nthN l (l.length - 1)
/-- from the last one that was met on: where it is wrong, or all that were met -/
def ringF (l : List Lk) : Nat → List Nat → Option Nat × List Nat
  | 0, vis => (none, vis)
  | n + 1, vis =>
    if (nthL l (lastN vis)).2.1 = own l then (none, vis)
    else if nxt l (lastN vis) < 0 ∨ (nxt l (lastN vis)).toNat ∈ vis then (some (lastN vis), vis)
    else ringF l n (vis ++ [(nxt l (lastN vis)).toNat])
/-- the one whose next one is the link at i, of those that were met -/
def fromF (l : List Lk) (vis : List Nat) (i : Nat) : Int := (nthL l (nthN vis ((vis.idxOf i + vis.length - 1) % vis.length))).1
def wrongF (l : List Lk) : Int × Int × Int :=
  if l.length = 0 then (0, 0, 11) else if 500 < l.length then (500, 0, 4) else
  match firstI (fun i => !(good1 l i && good4 l i)) l.length with
  | some i => if good1 l i = true then (i, 4, 12) else (i, 1, 12)
  | none => if idxI (ks l) (own l) < 0 then (0, 4, 12) else
    match ringF l l.length [(idxI (ks l) (own l)).toNat] with
    | (some i, _) => (i, 2, 12)
    | (none, vis) => match firstI (fun i => decide (i ∉ vis)) l.length with
      | some i => (i, 2, 12)
      | none => match firstI (fun i => decide ((nthL l i).2.2.1 ≠ fromF l vis i)) l.length with
        | some i => (i, 3, 12)
        | none => (-1, 0, 0)
def sortI (l : List Int) : List Int := l.mergeSort fun x y => decide (x ≤ y)
/-- the link of a key in a round -/
def lkF (R : List Int) (o k : Int) : Lk :=
  (k, nthI R (((idxI R k).toNat + 1) % R.length), nthI R (((idxI R k).toNat + R.length - 1) % R.length), o)
def builtF (o : Int) (ms : List Int) : List Lk := (sortI (o :: ms)).map (lkF (o :: ms) o)
/-- a round that may be one: keys, all different -/
structure Right (R : List Int) : Prop where
  keys : ∀ k ∈ R, keyB k = true
  nodup : R.Nodup
  le : R.length ≤ 500
end Go.Proofs.YtpobjheodlkkiaaGreatDoor
