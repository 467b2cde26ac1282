/- ItemFormats: the plain law, for any word V on validity that the items' own bounds follow from. -/
import Derived.Test.YtepgpejdnlejnaaDoorQ03
namespace Go.Proofs.YtepgpejdnlejnaaDoor
open Go
set_option linter.unusedVariables false
set_option linter.unusedSimpArgs false
set_option linter.unusedSectionVars false

/-- an item: name, kind, low, high, len -/
abbrev ItP := List UInt8 × Int × Int × Int × Int
structure ItOkP (x : ItP) : Prop where
  sp : (32 : UInt8) ∉ x.1
  sc : (59 : UInt8) ∉ x.1
  k : (x.2.1 = 1 ∧ x.2.2.2.2 = 0 ∧ -1000000000 ≤ x.2.2.1 ∧ x.2.2.1 ≤ 1000000000 ∧ -1000000000 ≤ x.2.2.2.1 ∧ x.2.2.2.1 ≤ 1000000000) ∨ (x.2.1 = 2 ∧ x.2.2.1 = 0 ∧ x.2.2.2.1 = 0 ∧ 1 ≤ x.2.2.2.2 ∧ x.2.2.2.2 ≤ 40)
def itemT (x : ItP) : List UInt8 :=
  if x.2.1 = 1 then x.1 ++ 32 :: ([105, 110, 116] ++ 32 :: (Lib.itoa x.2.2.1 ++ 32 :: Lib.itoa x.2.2.2.1)) else x.1 ++ 32 :: ([116, 101, 120, 116] ++ 32 :: Lib.itoa x.2.2.2.2)
/-- a part as the program reads it -/
def stepI (p : List UInt8) : Option ItP :=
  match cutC 32 p with
  | n :: k :: r :: rs => some (if k = [105, 110, 116] ∧ rs.length = 1 then (n, 1, atoiV r, atoiV (rs.getD 0 []), 0) else if k = [116, 101, 120, 116] ∧ rs.length = 0 then (n, 2, 0, 0, atoiV r) else (n, 0, 0, 0, 0))
  | _ => none
/-- a part as the reference reads it -/
def lineRI (p : List UInt8) : Option ItP :=
  match cutC 32 p with
  | [n, k, a, b] => if k = [105, 110, 116] ∧ (wholeF a).2 = true ∧ (wholeF b).2 = true then some (n, 1, (wholeF a).1, (wholeF b).1, 0) else none
  | [n, k, a] => if k = [116, 101, 120, 116] ∧ (wholeF a).2 = true then some (n, 2, 0, 0, (wholeF a).1) else none
  | _ => none
def readO (f : List UInt8 → Option ItP) : List (List UInt8) → Option (List ItP)
  | [] => some []
  | p :: r => match f p with
    | none => none
    | some x => match readO f r with
      | none => none
      | some xs => some (x :: xs)
section
variable (V : List ItP → Bool)
def fmtI (l : List ItP) : List UInt8 := if V l = true then Lib.join (l.map itemT) [59, 32] else []
def parsePI (t : List UInt8) : List ItP × Int :=
  if 20000 < t.length then ([], 3) else match readO stepI (cutS t) with
    | none => ([], 2)
    | some l => if fmtI V l ≠ t then ([], 2) else (l, 0)
def parseRI (t : List UInt8) : List ItP × Int :=
  if 20000 < t.length then ([], 3) else match readO lineRI (cutS t) with
    | none => ([], 2)
    | some l => if V l = false then ([], 2) else (l, 0)
end
theorem itemT_no {x : ItP} (h : ItOkP x) : (59 : UInt8) ∉ itemT x := by
  have hi := fun n => itoa_no n 59 (by decide)
  have hs := h.sc
  unfold itemT
  split
  · simp only [List.mem_append, List.mem_cons, not_or]
    exact ⟨hs, by decide, ⟨by decide, by decide, by decide, by simp⟩, by decide, hi _, by decide, hi _⟩
  · simp only [List.mem_append, List.mem_cons, not_or]
    exact ⟨hs, by decide, ⟨by decide, by decide, by decide, by decide, by simp⟩, by decide, hi _⟩
theorem cut_item {x : ItP} (h : ItOkP x) : cutC 32 (itemT x) = if x.2.1 = 1 then [x.1, [105, 110, 116], Lib.itoa x.2.2.1, Lib.itoa x.2.2.2.1] else [x.1, [116, 101, 120, 116], Lib.itoa x.2.2.2.2] := by
  have hi := fun n => itoa_no n 32 (by decide)
  unfold itemT
  split
  · rw [cutC_app 32 _ _ h.sp, cutC_app 32 _ _ (by decide), cutC_app 32 _ _ (hi _), cutC_none 32 _ (hi _)]
  · rw [cutC_app 32 _ _ h.sp, cutC_app 32 _ _ (by decide), cutC_none 32 _ (hi _)]
theorem stepI_item {x : ItP} (h : ItOkP x) : stepI (itemT x) = some x := by
  obtain ⟨n, k, a, b, c⟩ := x
  have hc := cut_item h
  unfold stepI
  rw [hc]
  rcases h.k with ⟨h1, h2, h3, h4, h5, h6⟩ | ⟨h1, h2, h3, h4, h5⟩
  · simp only at h1 h2 h3 h4 h5 h6
    subst h1 h2
    simp [atoiV_itoa a (by omega) (by omega), atoiV_itoa b (by omega) (by omega)]
  · simp only at h1 h2 h3 h4 h5
    subst h1 h2 h3
    simp [atoiV_itoa c (by omega) (by omega)]
theorem lineRI_item {x : ItP} (h : ItOkP x) : lineRI (itemT x) = some x := by
  obtain ⟨n, k, a, b, c⟩ := x
  have hc := cut_item h
  unfold lineRI
  rw [hc]
  rcases h.k with ⟨h1, h2, h3, h4, h5, h6⟩ | ⟨h1, h2, h3, h4, h5⟩
  · simp only at h1 h2 h3 h4 h5 h6
    subst h1 h2
    simp [whole_itoa a (by omega) (by omega), whole_itoa b (by omega) (by omega)]
  · simp only at h1 h2 h3 h4 h5
    subst h1 h2 h3
    simp [whole_itoa c (by omega) (by omega)]
theorem readO_map {f : List UInt8 → Option ItP} : ∀ (l : List ItP), (∀ x ∈ l, f (itemT x) = some x) → readO f (l.map itemT) = some l
  | [], _ => rfl
  | x :: l, h => by
    rw [List.map_cons, readO, h x (by simp), readO_map l (fun y hy => h y (List.mem_cons_of_mem _ hy))]
/-- a part that the reference reads is the item, written -/
theorem lineRI_inv {p : List UInt8} {x : ItP} (h : lineRI p = some x) : itemT x = p := by
  have hj := join_cutC 32 p
  unfold lineRI at h
  split at h
  · rename_i n k a b hc
    rw [hc] at hj
    split at h
    · rename_i hk
      injection h with h
      subst h
      obtain ⟨rfl, ha, hb⟩ := hk
      rw [join2, join2, join2, join1] at hj
      rw [← hj]
      unfold itemT
      simp [whole_inv a ha, whole_inv b hb]
    · cases h
  · rename_i n k a hc
    rw [hc] at hj
    split at h
    · rename_i hk
      injection h with h
      subst h
      obtain ⟨rfl, ha⟩ := hk
      rw [join2, join2, join1] at hj
      rw [← hj]
      unfold itemT
      simp [whole_inv a ha]
    · cases h
  · cases h
theorem readO_inv : ∀ (ps : List (List UInt8)) (l : List ItP), readO lineRI ps = some l → l.map itemT = ps
  | [], l, h => by injection h with h; subst h; rfl
  | p :: ps, l, h => by
    rw [readO] at h
    cases hx : lineRI p with
    | none => rw [hx] at h; cases h
    | some x =>
      rw [hx] at h
      simp only at h
      cases hr : readO lineRI ps with
      | none => rw [hr] at h; cases h
      | some xs =>
        rw [hr] at h
        injection h with h
        subst h
        rw [List.map_cons, lineRI_inv hx, readO_inv ps xs hr]
section
variable {V : List ItP → Bool} (hV : ∀ l, V l = true → l ≠ [] ∧ ∀ x ∈ l, ItOkP x)
include hV
theorem cut_fmtI {l : List ItP} (h : V l = true) : cutS (fmtI V l) = l.map itemT := by
  obtain ⟨h1, h2⟩ := hV l h
  unfold fmtI
  rw [if_pos h]
  refine cutS_join _ (fun e => h1 (List.map_eq_nil_iff.1 e)) (fun y hy => ?_)
  obtain ⟨x, hx, rfl⟩ := List.mem_map.1 hy
  exact itemT_no (h2 x hx)
theorem parsePI_fmt {l : List ItP} (h : V l = true) (hl : (fmtI V l).length ≤ 20000) : parsePI V (fmtI V l) = (l, 0) := by
  unfold parsePI
  rw [if_neg (by omega), cut_fmtI hV h, readO_map l (fun x hx => stepI_item ((hV l h).2 x hx))]
  simp
theorem parseRI_fmt {l : List ItP} (h : V l = true) (hl : (fmtI V l).length ≤ 20000) : parseRI V (fmtI V l) = (l, 0) := by
  unfold parseRI
  rw [if_neg (by omega), cut_fmtI hV h, readO_map l (fun x hx => lineRI_item ((hV l h).2 x hx))]
  simp [h]
/-- both parsers tell the same of every text -/
theorem parseI_same (t : List UInt8) : parsePI V t = parseRI V t := by
  by_cases hl : 20000 < t.length
  · unfold parsePI parseRI
    rw [if_pos hl, if_pos hl]
  · by_cases ht : ∃ l, V l = true ∧ fmtI V l = t
    · obtain ⟨l, h, rfl⟩ := ht
      rw [parsePI_fmt hV h (by omega), parseRI_fmt hV h (by omega)]
    · have hP : parsePI V t = ([], 2) := by
        unfold parsePI
        rw [if_neg hl]
        cases hr : readO stepI (cutS t) with
        | none => rfl
        | some l =>
          simp only
          rw [if_pos]
          intro e
          by_cases hv : V l = true
          · exact ht ⟨l, hv, e⟩
          · have e0 : t = [] := by rw [← e]; unfold fmtI; rw [if_neg hv]
            subst e0
            have e1 : readO stepI (cutS []) = none := by
              rw [cutS_none [] (by simp)]
              rfl
            rw [e1] at hr
            cases hr
      have hR : parseRI V t = ([], 2) := by
        unfold parseRI
        rw [if_neg hl]
        cases hr : readO lineRI (cutS t) with
        | none => rfl
        | some l =>
          simp only
          rw [if_pos]
          cases hv : V l with
          | false => rfl
          | true =>
            refine absurd ⟨l, hv, ?_⟩ ht
            unfold fmtI
            rw [if_pos hv, readO_inv _ _ hr]
            exact join_cutS _ t (Nat.le_refl _)
      rw [hP, hR]
end
end Go.Proofs.YtepgpejdnlejnaaDoor
