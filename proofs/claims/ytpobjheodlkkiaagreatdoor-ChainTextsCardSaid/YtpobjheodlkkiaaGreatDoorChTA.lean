/- ChainTexts: the plain law. -/
import Derived.Test.YtpobjheodlkkiaaGreatDoorTxB
import Derived.Test.YtpobjheodlkkiaaGreatDoorChM
import Derived.Lib.Strings
namespace Go.Proofs.YtpobjheodlkkiaaGreatDoor
open Go
set_option linter.unusedVariables false
set_option linter.unusedSimpArgs false

/-- a link's line without its end, a ring's text -/
def rowCh (x : Lk) : List UInt8 := Lib.itoa x.1 ++ 32 :: (Lib.itoa x.2.1 ++ 32 :: (Lib.itoa x.2.2.1 ++ 32 :: Lib.itoa x.2.2.2))
def linesCh (l : List Lk) : List UInt8 := (l.map fun x => rowCh x ++ [10]).flatten
def fmtC (l : List Lk) : List UInt8 := if validB l then linesCh l else []
/-- how the program reads a line -/
def stepC (line : List UInt8) : Lk :=
  (atoiV0 ((Lib.splitN (Lib.trimSuffix line [10]) [32] 4)[0]?), atoiV0 ((Lib.splitN (Lib.trimSuffix line [10]) [32] 4)[1]?), atoiV0 ((Lib.splitN (Lib.trimSuffix line [10]) [32] 4)[2]?), atoiV0 ((Lib.splitN (Lib.trimSuffix line [10]) [32] 4)[3]?))
where atoiV0 : Option (List UInt8) → Int
  | some w => atoiV w
  | none => 0
def readC (t : List UInt8) : List Lk := (linesC t).map stepC
def parsePC (t : List UInt8) : List Lk × Int :=
  if 20000 < t.length then ([], 3) else if t = [] ∨ fmtC (readC t) ≠ t then ([], 2) else (readC t, 0)
/-- how the reference reads a line: nothing where it is none -/
def lineRC (line : List UInt8) : Option Lk :=
  match cutC 32 line with
  | [a, b, c, d] => if (wholeF a).2 && (wholeF b).2 && (wholeF c).2 && (wholeF d).2 then some ((wholeF a).1, (wholeF b).1, (wholeF c).1, (wholeF d).1) else none
  | _ => none
def readRC : List (List UInt8) → Option (List Lk)
  | [] => some []
  | x :: r => match lineRC x with
    | none => none
    | some y => match readRC r with
      | none => none
      | some ys => some (y :: ys)
def parseRC (t : List UInt8) : List Lk × Int :=
  if 20000 < t.length then ([], 3) else
  match readRC ((cutC 10 t).dropLast) with
  | none => ([], 2)
  | some l => if fmtC l ≠ t ∨ t = [] then ([], 2) else (l, 0)

theorem keyC_t {x : Int} (h : keyB x = true) : 1 ≤ x ∧ x ≤ 1000000 := by simpa [keyB] using h
/-! ### what a valid ring is made of -/
structure LkOk (x : Lk) : Prop where
  a : keyB x.1 = true
  b : keyB x.2.1 = true
  c : keyB x.2.2.1 = true
  d : keyB x.2.2.2 = true
theorem nthI_memC {R : List Int} {i : Nat} (h : i < R.length) : nthI R i ∈ R := by
  unfold nthI
  rw [List.getD_eq_getElem?_getD, List.getElem?_eq_getElem h]
  exact List.getElem_mem h
theorem valid_links {l : List Lk} (h : validB l = true) : (∀ x ∈ l, LkOk x) ∧ l ≠ [] ∧ l.length ≤ 500 := by
  obtain ⟨o, ms, rfl, hR, _⟩ := validB_is h
  have hlen : (sortI (o :: ms)).length = (o :: ms).length := by unfold sortI; exact List.length_mergeSort _
  have hmem : ∀ k, k ∈ sortI (o :: ms) ↔ k ∈ o :: ms := fun k => by unfold sortI; exact List.mem_mergeSort
  refine ⟨fun x hx => ?_, fun e => ?_, ?_⟩
  · obtain ⟨k, hk, rfl⟩ := List.mem_map.1 hx
    have hk2 := (hmem k).1 hk
    exact ⟨hR.keys k hk2, hR.keys _ (nthI_memC (Nat.mod_lt _ (by simp))), hR.keys _ (nthI_memC (Nat.mod_lt _ (by simp))), hR.keys o (by simp)⟩
  · have := congrArg List.length e
    unfold builtF at this
    rw [List.length_map, hlen] at this
    simp at this
  · unfold builtF
    rw [List.length_map, hlen]
    exact hR.le
theorem rowCh_no (x : Lk) : (10 : UInt8) ∉ rowCh x := by
  have h := fun n => itoa_no n 10 (by decide)
  unfold rowCh
  simp only [List.mem_append, List.mem_cons, not_or]
  exact ⟨h _, by decide, h _, by decide, h _, by decide, h _⟩
theorem lines_ofC : ∀ (l : List Lk), linesC (linesCh l) = l.map fun x => rowCh x ++ [10]
  | [] => rfl
  | x :: l => by
    have e : linesCh (x :: l) = rowCh x ++ 10 :: linesCh l := by simp [linesCh]
    rw [e, linesC_app _ _ (rowCh_no x), lines_ofC l]
    rfl
theorem cut_ofC : ∀ (l : List Lk), cutC 10 (linesCh l) = l.map rowCh ++ [[]]
  | [] => rfl
  | x :: l => by
    have e : linesCh (x :: l) = rowCh x ++ 10 :: linesCh l := by simp [linesCh]
    rw [e, cutC_app 10 _ _ (rowCh_no x), cut_ofC l]
    rfl
theorem split_step (c : UInt8) (p r : List UInt8) (k : Nat) (h : c ∉ p) : Lib.splitK [c] 0 (k + 1) (p ++ c :: r) = p :: Lib.splitK [c] 0 k r := by
  have hi := index_c_hit c r p h
  have hs : (p ++ c :: r).drop (p.length + [c].length) = r := by rw [List.drop_append]; simp
  rw [Lib.splitK, hi, if_neg (by rw [beq_iff_eq]; omega), Int.toNat_natCast, hs, Nat.add_zero, List.take_append]
  simp
theorem splitN_row (x : Lk) : Lib.splitN (rowCh x) [32] 4 = [Lib.itoa x.1, Lib.itoa x.2.1, Lib.itoa x.2.2.1, Lib.itoa x.2.2.2] := by
  have h := fun n => itoa_no n 32 (by decide)
  have hl : 3 ≤ (rowCh x).length := by unfold rowCh; simp; omega
  unfold Lib.splitN
  rw [show min 4 ((rowCh x).length + 1) - 1 = 3 by omega]
  unfold rowCh
  rw [split_step 32 _ _ 2 (h _), split_step 32 _ _ 1 (h _), split_step 32 _ _ 0 (h _)]
  rfl
theorem trim_nlC (p : List UInt8) : Lib.trimSuffix (p ++ [10]) [10] = p := by
  unfold Lib.trimSuffix Lib.hasSuffix
  simp
theorem stepC_row (x : Lk) (h : LkOk x) : stepC (rowCh x ++ [10]) = x := by
  obtain ⟨a, b, c, d⟩ := x
  have ha := keyC_t h.a
  have hb := keyC_t h.b
  have hc := keyC_t h.c
  have hd := keyC_t h.d
  unfold stepC
  rw [trim_nlC, splitN_row]
  simp only at ha hb hc hd
  show (atoiV (Lib.itoa a), atoiV (Lib.itoa b), atoiV (Lib.itoa c), atoiV (Lib.itoa d)) = _
  rw [atoiV_itoa a (by omega) (by omega), atoiV_itoa b (by omega) (by omega), atoiV_itoa c (by omega) (by omega), atoiV_itoa d (by omega) (by omega)]
theorem readC_fmt {l : List Lk} (h : validB l = true) : readC (fmtC l) = l := by
  obtain ⟨h1, _, _⟩ := valid_links h
  unfold readC fmtC
  rw [if_pos h, lines_ofC, List.map_map]
  conv => rhs; rw [← List.map_id l]
  exact List.map_congr_left fun x hx => stepC_row x (h1 x hx)
theorem cut_row4 (x : Lk) : cutC 32 (rowCh x) = [Lib.itoa x.1, Lib.itoa x.2.1, Lib.itoa x.2.2.1, Lib.itoa x.2.2.2] := by
  have h := fun n => itoa_no n 32 (by decide)
  unfold rowCh
  rw [cutC_app 32 _ _ (h _), cutC_app 32 _ _ (h _), cutC_app 32 _ _ (h _), cutC_none 32 _ (h _)]
theorem lineRC_row (x : Lk) (h : LkOk x) : lineRC (rowCh x) = some x := by
  obtain ⟨a, b, c, d⟩ := x
  have ha := keyC_t h.a
  have hb := keyC_t h.b
  have hc := keyC_t h.c
  have hd := keyC_t h.d
  simp only at ha hb hc hd
  unfold lineRC
  rw [cut_row4]
  simp only
  rw [whole_itoa a (by omega) (by omega), whole_itoa b (by omega) (by omega), whole_itoa c (by omega) (by omega), whole_itoa d (by omega) (by omega)]
  rfl
theorem readRC_rows : ∀ (l : List Lk), (∀ x ∈ l, LkOk x) → readRC (l.map rowCh) = some l
  | [], _ => rfl
  | x :: l, h => by
    rw [List.map_cons, readRC, lineRC_row x (h x (by simp)), readRC_rows l (fun y hy => h y (by simp [hy]))]
theorem fmtC_no {l : List Lk} (h : ¬ validB l = true) : fmtC l = [] := by unfold fmtC; rw [if_neg h]
theorem linesCh_ne {l : List Lk} (h : l ≠ []) : linesCh l ≠ [] := by
  cases l with
  | nil => exact absurd rfl h
  | cons x l => simp [linesCh]
theorem fmtC_ne {l : List Lk} (h : validB l = true) : fmtC l ≠ [] := by
  unfold fmtC
  rw [if_pos h]
  exact linesCh_ne (valid_links h).2.1
theorem parsePC_fmt {l : List Lk} (h : validB l = true) (hl : (fmtC l).length ≤ 20000) : parsePC (fmtC l) = (l, 0) := by
  unfold parsePC
  rw [if_neg (by omega), readC_fmt h, if_neg]
  rintro (e | e)
  · exact fmtC_ne h e
  · exact e rfl
theorem parseRC_fmt {l : List Lk} (h : validB l = true) (hl : (fmtC l).length ≤ 20000) : parseRC (fmtC l) = (l, 0) := by
  have e : (cutC 10 (fmtC l)).dropLast = l.map rowCh := by
    unfold fmtC
    rw [if_pos h, cut_ofC]
    simp
  unfold parseRC
  rw [if_neg (by omega), e, readRC_rows l (valid_links h).1]
  simp only
  rw [if_neg]
  rintro (e | e)
  · exact e rfl
  · exact fmtC_ne h e
/-- both parsers tell the same of every text -/
theorem parseC_same (t : List UInt8) : parsePC t = parseRC t := by
  by_cases hl : 20000 < t.length
  · unfold parsePC parseRC
    rw [if_pos hl, if_pos hl]
  · by_cases ht : ∃ l, validB l = true ∧ fmtC l = t
    · obtain ⟨l, h, rfl⟩ := ht
      rw [parsePC_fmt h (by omega), parseRC_fmt h (by omega)]
    · have hno : ∀ l, t ≠ [] → fmtC l ≠ t := fun l hne e => by
        by_cases hok : validB l = true
        · exact ht ⟨l, hok, e⟩
        · rw [fmtC_no hok] at e; exact hne e.symm
      have hP : parsePC t = ([], 2) := by
        unfold parsePC
        rw [if_neg hl]
        by_cases he : t = []
        · rw [if_pos (Or.inl he)]
        · rw [if_pos (Or.inr (hno _ he))]
      have hR : parseRC t = ([], 2) := by
        unfold parseRC
        rw [if_neg hl]
        split
        · rfl
        · by_cases he : t = []
          · rw [if_pos (Or.inr he)]
          · rw [if_pos (Or.inl (hno _ he))]
      rw [hP, hR]
/-- how long a text is -/
theorem itoa_key_lenC {x : Int} (h : keyB x = true) : (Lib.itoa x).length ≤ 7 := by
  have hx := keyC_t h
  have e : Lib.itoa x = Lib.decDigits x.toNat := by unfold Lib.itoa; rw [if_neg (by omega)]
  rw [e]
  exact dec_len _ 6 (by omega)
theorem rowCh_len (x : Lk) (h : LkOk x) : (rowCh x).length ≤ 31 := by
  have h1 := itoa_key_lenC h.a
  have h2 := itoa_key_lenC h.b
  have h3 := itoa_key_lenC h.c
  have h4 := itoa_key_lenC h.d
  unfold rowCh
  simp only [List.length_append, List.length_cons]
  omega
theorem linesCh_len : ∀ (l : List Lk), (∀ x ∈ l, LkOk x) → (linesCh l).length ≤ l.length * 32
  | [], _ => by simp [linesCh]
  | x :: l, h => by
    have ih := linesCh_len l (fun y hy => h y (by simp [hy]))
    have h1 := rowCh_len x (h x (by simp))
    have e : linesCh (x :: l) = (rowCh x ++ [10]) ++ linesCh l := rfl
    rw [e, List.length_append, List.length_append]
    simp only [List.length_cons, List.length_nil, Nat.add_mul]
    omega
theorem fmtC_len {l : List Lk} (h : validB l = true) : (fmtC l).length ≤ l.length * 32 := by
  unfold fmtC
  rw [if_pos h]
  exact linesCh_len l (valid_links h).1
end Go.Proofs.YtpobjheodlkkiaaGreatDoor
