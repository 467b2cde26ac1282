/- Rings: what Wrong tells, part by part. -/
import Derived.Test.YtpobjheodlkkiaaGreatDoorChE
namespace Go.Proofs.YtpobjheodlkkiaaGreatDoor
open Go.RowKit
set_option linter.unusedVariables false
set_option maxRecDepth 20000
set_option linter.unusedSimpArgs false
set_option linter.unusedSectionVars false
set_option maxRecDepth 20000

def endF (l : List Lk) (vis : List Nat) : Int × Int × Int :=
  match firstI (fun i => decide (i ∉ vis)) l.length with
  | some i => (i, 2, 12)
  | none => match firstI (fun i => decide ((nthL l i).2.2.1 ≠ fromF l vis i)) l.length with
    | some i => (i, 3, 12)
    | none => (-1, 0, 0)
def ringR (l : List Lk) (r : Option Nat × List Nat) : Int × Int × Int :=
  match r with
  | (some i, _) => (i, 2, 12)
  | (none, vis) => endF l vis
def restF (l : List Lk) : Int × Int × Int := if idxI (ks l) (own l) < 0 then (0, 4, 12) else ringR l (ringF l l.length [(idxI (ks l) (own l)).toNat])
section
variable {l : List Lk}
theorem wrongF_0 (h : l.length = 0) : wrongF l = (0, 0, 11) := by unfold wrongF; rw [if_pos h]
theorem wrongF_500 (h : 500 < l.length) : wrongF l = (500, 0, 4) := by unfold wrongF; rw [if_neg (by omega), if_pos h]
theorem wrongF_1 {k : Nat} (h0 : 0 < l.length) (h5 : l.length ≤ 500) (hk : k < l.length) (hb : ∀ j, j < k → good1 l j = true ∧ good4 l j = true) (h1 : good1 l k = false) : wrongF l = ((k : Int), 1, 12) := by
  unfold wrongF
  rw [if_neg (by omega), if_neg (by omega), firstI_some hk (by rw [h1]; rfl) (fun j hj => by rw [(hb j hj).1, (hb j hj).2]; rfl)]
  simp only
  rw [h1]
  rfl
theorem wrongF_4 {k : Nat} (h0 : 0 < l.length) (h5 : l.length ≤ 500) (hk : k < l.length) (hb : ∀ j, j < k → good1 l j = true ∧ good4 l j = true) (h1 : good1 l k = true) (h4 : good4 l k = false) : wrongF l = ((k : Int), 4, 12) := by
  unfold wrongF
  rw [if_neg (by omega), if_neg (by omega), firstI_some hk (by rw [h1, h4]; rfl) (fun j hj => by rw [(hb j hj).1, (hb j hj).2]; rfl)]
  simp only
  rw [h1]
  rfl
theorem wrongF_rest (h0 : 0 < l.length) (h5 : l.length ≤ 500) (hb : ∀ j, j < l.length → good1 l j = true ∧ good4 l j = true) : wrongF l = restF l := by
  unfold wrongF restF
  rw [if_neg (by omega), if_neg (by omega), firstI_none (fun j hj => by rw [(hb j hj).1, (hb j hj).2]; rfl)]
  simp only
  split
  · rfl
  · unfold ringR endF
    rfl
theorem good1_no {k : Nat} (h : keyB (nthL l k).1 = false) : good1 l k = false := by unfold good1; rw [h]; rfl
theorem good1_0 (h : keyB (nthL l 0).1 = true) : good1 l 0 = true := by unfold good1; rw [h]; rfl
theorem good1_le {k : Nat} (h0 : 0 < k) (h : (nthL l k).1 ≤ (nthL l (k - 1)).1) : good1 l k = false := by
  unfold good1
  rw [show decide (k = 0) = false from decide_eq_false (by omega), show decide ((nthL l (k - 1)).1 < (nthL l k).1) = false from decide_eq_false (by omega)]
  simp
theorem good1_lt {k : Nat} (hk : keyB (nthL l k).1 = true) (h : (nthL l (k - 1)).1 < (nthL l k).1) : good1 l k = true := by
  unfold good1
  rw [hk, decide_eq_true h]
  simp
theorem good4_no {k : Nat} (h : keyB (nthL l k).2.2.2 = false) : good4 l k = false := by unfold good4; rw [h]; rfl
theorem good4_ne {k : Nat} (h : (nthL l k).2.2.2 ≠ own l) : good4 l k = false := by unfold good4; rw [decide_eq_false h, Bool.and_false]
theorem good4_eq {k : Nat} (hk : keyB (nthL l k).2.2.2 = true) (h : (nthL l k).2.2.2 = own l) : good4 l k = true := by unfold good4; rw [hk, decide_eq_true h]; rfl
theorem endF_2 {vis : List Nat} {k : Nat} (hk : k < l.length) (h : k ∉ vis) (hb : ∀ j, j < k → j ∈ vis) : endF l vis = ((k : Int), 2, 12) := by
  unfold endF
  rw [firstI_some hk (by simpa using h) (fun j hj => by simpa using hb j hj)]
theorem endF_3 {vis : List Nat} {k : Nat} (hall : ∀ j, j < l.length → j ∈ vis) (hk : k < l.length) (h : (nthL l k).2.2.1 ≠ fromF l vis k) (hb : ∀ j, j < k → (nthL l j).2.2.1 = fromF l vis j) : endF l vis = ((k : Int), 3, 12) := by
  unfold endF
  rw [firstI_none (fun j hj => by simpa using hall j hj)]
  simp only
  rw [firstI_some hk (by simpa using h) (fun j hj => by simpa using hb j hj)]
theorem endF_0 {vis : List Nat} (hall : ∀ j, j < l.length → j ∈ vis) (hb : ∀ j, j < l.length → (nthL l j).2.2.1 = fromF l vis j) : endF l vis = (-1, 0, 0) := by
  unfold endF
  rw [firstI_none (fun j hj => by simpa using hall j hj)]
  simp only
  rw [firstI_none (fun j hj => by simpa using hb j hj)]
theorem lastN_mem {vis : List Nat} (h : 0 < vis.length) : lastN vis ∈ vis := nthN_mem (by omega)
/-- a step of the way -/
theorem ringF_end {n : Nat} {vis : List Nat} (h : (nthL l (lastN vis)).2.1 = own l) : ringF l (n + 1) vis = (none, vis) := by
  unfold ringF; rw [if_pos h]
theorem ringF_bad {n : Nat} {vis : List Nat} (h : (nthL l (lastN vis)).2.1 ≠ own l) (h2 : nxt l (lastN vis) < 0 ∨ (nxt l (lastN vis)).toNat ∈ vis) : ringF l (n + 1) vis = (some (lastN vis), vis) := by
  unfold ringF; rw [if_neg h, if_pos h2]
theorem ringF_go {n : Nat} {vis : List Nat} (h : (nthL l (lastN vis)).2.1 ≠ own l) (h1 : 0 ≤ nxt l (lastN vis)) (h2 : (nxt l (lastN vis)).toNat ∉ vis) : ringF l (n + 1) vis = ringF l n (vis ++ [(nxt l (lastN vis)).toNat]) := by
  conv => lhs; unfold ringF
  rw [if_neg h, if_neg (by rintro (h | h); omega; exact h2 h)]
/-- behind the way, if all were met -/
theorem from_nxt {o : Nat} {vis : List Nat} (hg : ∀ i, i < l.length → good1 l i = true) (hm : Met l o vis) (ho : (nthL l o).1 = own l) (hl : (nthL l (lastN vis)).2.1 = own l) {i : Nat} (hi : i ∈ vis) :
    0 ≤ nxt l i ∧ (nxt l i).toNat < l.length ∧ fromF l vis (nxt l i).toNat = (nthL l i).1 ∧ (nxt l i).toNat ∈ vis := by
  obtain ⟨p, hp, e⟩ := List.getElem_of_mem hi
  rw [← nthN_get hp] at e
  have hpos := hm.pos
  have h0 : nthN vis 0 = o := hm.first
  by_cases hlast : p + 1 < vis.length
  · have h1 := hm.step p hlast
    rw [e] at h1
    have hx := hm.lt _ (nthN_mem hlast)
    have hn := nxt_of hg hx h1.symm
    rw [hn]
    refine ⟨by omega, by simpa using hx, ?_, by simpa using nthN_mem hlast⟩
    unfold fromF
    rw [Int.toNat_natCast, idxOf_nth hm.nodup hlast, show p + 1 + vis.length - 1 = p + vis.length from by omega, Nat.add_mod_right, Nat.mod_eq_of_lt (by omega), e]
  · have hpe : p = vis.length - 1 := by omega
    have h1 : (nthL l i).2.1 = own l := by rw [← e, hpe]; exact hl
    have hx := hm.lt _ (nthN_mem hpos)
    rw [h0] at hx
    have hn := nxt_of hg hx (by rw [ho, h1])
    rw [hn]
    refine ⟨by omega, by simpa using hx, ?_, by rw [Int.toNat_natCast, ← h0]; exact nthN_mem hpos⟩
    unfold fromF
    have hio := idxOf_nth hm.nodup hpos
    rw [h0] at hio
    rw [Int.toNat_natCast, hio, show 0 + vis.length - 1 = p from by omega, Nat.mod_eq_of_lt (by omega), e]
theorem nxt_onto {o : Nat} {vis : List Nat} (hg : ∀ i, i < l.length → good1 l i = true) (hm : Met l o vis) (ho : (nthL l o).1 = own l) (hl : (nthL l (lastN vis)).2.1 = own l) {i : Nat} (hi : i ∈ vis) : ∃ j, j ∈ vis ∧ nxt l j = i := by
  obtain ⟨p, hp, e⟩ := List.getElem_of_mem hi
  rw [← nthN_get hp] at e
  have hpos := hm.pos
  cases p with
  | zero =>
    refine ⟨lastN vis, lastN_mem hpos, ?_⟩
    rw [hm.first] at e
    have hx := hm.lt _ (nthN_mem hpos)
    rw [hm.first] at hx
    rw [← e]
    exact nxt_of hg hx (by rw [ho, hl])
  | succ p =>
    refine ⟨nthN vis p, nthN_mem (by omega), ?_⟩
    rw [← e]
    exact nxt_of hg (hm.lt _ (nthN_mem hp)) (hm.step p hp).symm
end
/-- all numbers of a link are numbers of the language -/
def OkI (x : Int) : Prop := -9223372036854775808 ≤ x ∧ x ≤ 9223372036854775807
def OkK (x : Lk) : Prop := OkI x.1 ∧ OkI x.2.1 ∧ OkI x.2.2.1 ∧ OkI x.2.2.2
theorem okK_nth {l : List Lk} (h : ∀ x ∈ l, OkK x) (i : Nat) : OkK (nthL l i) := by
  by_cases hi : i < l.length
  · exact h _ (nthL_mem hi)
  · unfold nthL
    rw [List.getD_eq_getElem?_getD, List.getElem?_eq_none (by omega)]
    exact ⟨⟨by show (-9223372036854775808 : Int) ≤ 0; omega, by show (0 : Int) ≤ _; omega⟩, ⟨by show (-9223372036854775808 : Int) ≤ 0; omega, by show (0 : Int) ≤ _; omega⟩, ⟨by show (-9223372036854775808 : Int) ≤ 0; omega, by show (0 : Int) ≤ _; omega⟩, ⟨by show (-9223372036854775808 : Int) ≤ 0; omega, by show (0 : Int) ≤ _; omega⟩⟩
end Go.Proofs.YtpobjheodlkkiaaGreatDoor
