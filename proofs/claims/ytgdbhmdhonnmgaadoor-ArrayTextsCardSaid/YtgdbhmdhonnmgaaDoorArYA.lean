/- ArrayTexts: the plain law. -/
import Derived.Test.YtgdbhmdhonnmgaaDoorTxB
import Derived.Test.YtgdbhmdhonnmgaaDoorArM
import Derived.Lib.Strings
namespace Go.Proofs.YtgdbhmdhonnmgaaDoor
open Go
set_option linter.unusedVariables false
set_option linter.unusedSimpArgs false

/-- a block's line, an array's text -/
def lineA (l : List Int) : List UInt8 := Lib.join (l.map Lib.itoa) [32] ++ [10]
def linesA (LL : List (List Int)) : List UInt8 := (LL.map lineA).flatten
def fmtA (b : Int) (LL : List (List Int)) : List UInt8 := if validF b LL then 98 :: 32 :: (Lib.itoa b ++ 10 :: linesA LL) else []
/-- how the program reads a line -/
def stepP (st : Int × List (List Int)) (line : List UInt8) : Int × List (List Int) :=
  if st.1 = 0 ∧ st.2 = [] ∧ (cutC 32 (Lib.trimSuffix line [10])).length = 2 ∧ (cutC 32 (Lib.trimSuffix line [10])).getD 0 [] = [98] then (atoiV ((cutC 32 (Lib.trimSuffix line [10])).getD 1 []), st.2)
  else (st.1, st.2 ++ [(cutC 32 (Lib.trimSuffix line [10])).map atoiV])
def readP (t : List UInt8) : Int × List (List Int) := (linesC t).foldl stepP (0, [])
/-- how the program ends -/
def parseP (t : List UInt8) : Int × List (List Int) × Int :=
  if 20000 < t.length then (0, [], 3) else if t = [] ∨ fmtA (readP t).1 (readP t).2 ≠ t then (0, [], 2) else ((readP t).1, (readP t).2, 0)
/-- how the reference reads -/
def rowR (l : List UInt8) : List Int := (cutC 32 l).map fun w => (wholeF w).1
def okR (l : List UInt8) : Bool := (cutC 32 l).all fun w => (wholeF w).2
def midR (t : List UInt8) : List (List UInt8) := ((cutC 10 t).drop 1).take ((cutC 10 t).length - 2)
def parseR (t : List UInt8) : Int × List (List Int) × Int :=
  if 20000 < t.length then (0, [], 3)
  else if ((cutC 10 t).getD 0 []).length < 3 ∨ ((cutC 10 t).getD 0 []).take 2 ≠ [98, 32] then (0, [], 2)
  else if ((wholeF (((cutC 10 t).getD 0 []).drop 2)).2 && (midR t).all okR) = false ∨ fmtA (wholeF (((cutC 10 t).getD 0 []).drop 2)).1 ((midR t).map rowR) ≠ t then (0, [], 2)
  else ((wholeF (((cutC 10 t).getD 0 []).drop 2)).1, (midR t).map rowR, 0)

theorem join_no {c : UInt8} : ∀ (ws : List (List UInt8)) (s : UInt8), s ≠ c → (∀ x ∈ ws, c ∉ x) → c ∉ Lib.join ws [s]
  | [], s, _, _ => by simp [Lib.join, List.intercalate]
  | [a], s, _, h => by simpa [Lib.join, List.intercalate] using h a (by simp)
  | a :: b :: l, s, hs, h => by
    have := join_no (b :: l) s hs (fun x hx => h x (by simp [List.mem_cons.1 hx]))
    have e : Lib.join (a :: b :: l) [s] = a ++ s :: Lib.join (b :: l) [s] := by simp [Lib.join, List.intercalate, List.intersperse]
    rw [e, List.mem_append, List.mem_cons, not_or, not_or]
    exact ⟨h a (by simp), fun e => hs e.symm, this⟩
theorem line_no (l : List Int) : (10 : UInt8) ∉ Lib.join (l.map Lib.itoa) [32] := by
  refine join_no _ 32 (by decide) fun x hx => ?_
  obtain ⟨n, _, rfl⟩ := List.mem_map.1 hx
  exact itoa_no n 10 (by decide)
theorem lines_of : ∀ (LL : List (List Int)), linesC (linesA LL) = LL.map lineA
  | [] => rfl
  | l :: LL => by
    have e : linesA (l :: LL) = Lib.join (l.map Lib.itoa) [32] ++ 10 :: linesA LL := by simp [linesA, lineA]
    rw [e, linesC_app _ _ (line_no l), lines_of LL]
    rfl
theorem cut_of : ∀ (LL : List (List Int)), cutC 10 (linesA LL) = LL.map (fun l => Lib.join (l.map Lib.itoa) [32]) ++ [[]]
  | [] => rfl
  | l :: LL => by
    have e : linesA (l :: LL) = Lib.join (l.map Lib.itoa) [32] ++ 10 :: linesA LL := by simp [linesA, lineA]
    rw [e, cutC_app 10 _ _ (line_no l), cut_of LL]
    rfl
theorem trim_nl (p : List UInt8) : Lib.trimSuffix (p ++ [10]) [10] = p := by
  unfold Lib.trimSuffix Lib.hasSuffix
  simp
theorem cut_row (l : List Int) (h : l ≠ []) : cutC 32 (Lib.join (l.map Lib.itoa) [32]) = l.map Lib.itoa := by
  refine cutC_join 32 _ (by simpa using h) fun x hx => ?_
  obtain ⟨n, _, rfl⟩ := List.mem_map.1 hx
  exact itoa_no n 32 (by decide)
theorem map_atoi : ∀ (l : List Int), (∀ x ∈ l, keyB x = true) → (l.map Lib.itoa).map atoiV = l
  | [], _ => rfl
  | x :: l, h => by
    have hx := keyB_t (h x (by simp))
    rw [List.map_cons, List.map_cons, atoiV_itoa x (by omega) (by omega), map_atoi l (fun y hy => h y (by simp [hy]))]
theorem keys_of {LL : List (List Int)} {l : List Int} (h : KeysOk LL.flatten) (hl : l ∈ LL) : ∀ x ∈ l, keyB x = true :=
  fun x hx => h.1 x (List.mem_flatten.2 ⟨l, hl, hx⟩)
theorem fold_rows (b : Int) (hb : b ≠ 0) : ∀ (LL acc : List (List Int)), (∀ l ∈ LL, l ≠ [] ∧ ∀ x ∈ l, keyB x = true) → (LL.map lineA).foldl stepP (b, acc) = (b, acc ++ LL)
  | [], acc, _ => by simp
  | l :: LL, acc, h => by
    have hl := h l (by simp)
    have e : stepP (b, acc) (lineA l) = (b, acc ++ [l]) := by
      unfold stepP
      rw [if_neg (fun hh => hb hh.1)]
      simp only
      rw [lineA, trim_nl, cut_row l hl.1, map_atoi l hl.2]
    rw [List.map_cons, List.foldl_cons, e, fold_rows b hb LL _ (fun x hx => h x (by simp [hx])), List.append_assoc]
    rfl
theorem itoa_no32 (n : Int) : (32 : UInt8) ∉ Lib.itoa n := itoa_no n 32 (by decide)
/-- the program reads what Format wrote -/
theorem readP_fmt {b : Int} {LL : List (List Int)} (h : ArOk b LL) : readP (fmtA b LL) = (b, LL) := by
  have hb := roomB_t h.room
  have hv := validF_iff.2 h
  have hnl : (10 : UInt8) ∉ (98 :: 32 :: Lib.itoa b : List UInt8) := by
    simp only [List.mem_cons, not_or]
    exact ⟨by decide, by decide, itoa_no b 10 (by decide)⟩
  have e : fmtA b LL = (98 :: 32 :: Lib.itoa b) ++ 10 :: linesA LL := by unfold fmtA; rw [if_pos hv]; rfl
  have hc : cutC 32 (98 :: 32 :: Lib.itoa b) = [[98], Lib.itoa b] := by
    have := cutC_app 32 (Lib.itoa b) [98] (by decide)
    rw [cutC_none 32 _ (itoa_no32 b)] at this
    exact this
  unfold readP
  rw [e, linesC_app _ _ hnl, lines_of, List.foldl_cons]
  have e1 : stepP (0, []) ((98 :: 32 :: Lib.itoa b) ++ [10]) = (b, []) := by
    unfold stepP
    rw [trim_nl, hc, if_pos ⟨rfl, rfl, rfl, rfl⟩]
    show (atoiV (Lib.itoa b), []) = _
    rw [atoiV_itoa b (by omega) (by omega)]
  rw [e1, fold_rows b (by omega) LL [] (fun l hl => ⟨(h.blocks l hl).1, keys_of h.keys hl⟩), List.nil_append]
theorem rowR_of (l : List Int) (h : l ≠ []) (hk : ∀ x ∈ l, keyB x = true) : rowR (Lib.join (l.map Lib.itoa) [32]) = l ∧ okR (Lib.join (l.map Lib.itoa) [32]) = true := by
  unfold rowR okR
  rw [cut_row l h]
  clear h
  induction l with
  | nil => exact ⟨rfl, rfl⟩
  | cons x l ih =>
    have hx := keyB_t (hk x (by simp))
    obtain ⟨h1, h2⟩ := ih (fun y hy => hk y (by simp [hy]))
    rw [List.map_cons, List.map_cons, List.all_cons, whole_itoa x (by omega) (by omega)]
    exact ⟨by rw [h1], by simp only [h2, Bool.and_true]⟩
theorem fmt_cut {b : Int} {LL : List (List Int)} (h : ArOk b LL) : cutC 10 (fmtA b LL) = (98 :: 32 :: Lib.itoa b) :: (LL.map (fun l => Lib.join (l.map Lib.itoa) [32]) ++ [[]]) := by
  have hv := validF_iff.2 h
  have hnl : (10 : UInt8) ∉ (98 :: 32 :: Lib.itoa b : List UInt8) := by
    simp only [List.mem_cons, not_or]
    exact ⟨by decide, by decide, itoa_no b 10 (by decide)⟩
  have e : fmtA b LL = (98 :: 32 :: Lib.itoa b) ++ 10 :: linesA LL := by unfold fmtA; rw [if_pos hv]; rfl
  rw [e, cutC_app 10 _ _ hnl, cut_of]
theorem rows_of : ∀ (LL : List (List Int)), (∀ l ∈ LL, l ≠ [] ∧ ∀ x ∈ l, keyB x = true) → ((LL.map (fun l => Lib.join (l.map Lib.itoa) [32])).map rowR = LL ∧ (LL.map (fun l => Lib.join (l.map Lib.itoa) [32])).all okR = true)
  | [], _ => ⟨rfl, rfl⟩
  | l :: LL, h => by
    obtain ⟨h1, h2⟩ := rows_of LL (fun x hx => h x (by simp [hx]))
    have hl := h l (by simp)
    obtain ⟨h3, h4⟩ := rowR_of l hl.1 hl.2
    rw [List.map_cons, List.map_cons, h1, h3, List.all_cons, h2, h4]
    exact ⟨rfl, rfl⟩
theorem mid_fmt {b : Int} {LL : List (List Int)} (h : ArOk b LL) : midR (fmtA b LL) = LL.map (fun l => Lib.join (l.map Lib.itoa) [32]) := by
  unfold midR
  rw [fmt_cut h]
  simp
/-- the reference's answer at what Format wrote -/
theorem parseR_fmt {b : Int} {LL : List (List Int)} (h : ArOk b LL) (hl : (fmtA b LL).length ≤ 20000) : parseR (fmtA b LL) = (b, LL, 0) := by
  have hb := roomB_t h.room
  obtain ⟨h1, h2⟩ := rows_of LL (fun l hl => ⟨(h.blocks l hl).1, keys_of h.keys hl⟩)
  have hn := itoa_ne b
  have hp : 1 ≤ (Lib.itoa b).length := by
    cases h : Lib.itoa b with
    | nil => exact absurd h hn
    | cons c r => simp
  unfold parseR
  rw [mid_fmt h, h1, h2, fmt_cut h]
  have hw : wholeF (((98 :: 32 :: Lib.itoa b) :: (LL.map (fun l => Lib.join (l.map Lib.itoa) [32]) ++ [[]])).getD 0 [] |>.drop 2) = (b, true) := whole_itoa b (by omega) (by omega)
  rw [if_neg (by omega), hw]
  rw [if_neg, if_neg]
  · rintro (h | h)
    · simp at h
    · exact h rfl
  · rintro (h | h)
    · simp at h; omega
    · exact h rfl
theorem parseP_fmt {b : Int} {LL : List (List Int)} (h : ArOk b LL) (hl : (fmtA b LL).length ≤ 20000) : parseP (fmtA b LL) = (b, LL, 0) := by
  have e : fmtA b LL ≠ [] := by unfold fmtA; rw [if_pos (validF_iff.2 h)]; simp
  unfold parseP
  rw [if_neg (by omega), readP_fmt h, if_neg]
  rintro (h | h)
  · exact e h
  · exact h rfl
theorem fmtA_no {b : Int} {LL : List (List Int)} (h : ¬ ArOk b LL) : fmtA b LL = [] := by
  unfold fmtA
  rw [if_neg (fun e => h (validF_iff.1 e))]
/-- both parsers tell the same of every text -/
theorem parse_same (t : List UInt8) : parseP t = parseR t := by
  by_cases hl : 20000 < t.length
  · unfold parseP parseR
    rw [if_pos hl, if_pos hl]
  · by_cases ht : ∃ b LL, ArOk b LL ∧ fmtA b LL = t
    · obtain ⟨b, LL, h, rfl⟩ := ht
      rw [parseP_fmt h (by omega), parseR_fmt h (by omega)]
    · have hno : ∀ b LL, t ≠ [] → fmtA b LL ≠ t := fun b LL hne e => by
        by_cases hok : ArOk b LL
        · exact ht ⟨b, LL, hok, e⟩
        · rw [fmtA_no hok] at e; exact hne e.symm
      have hP : parseP t = (0, [], 2) := by
        unfold parseP
        rw [if_neg hl]
        by_cases he : t = []
        · rw [if_pos (Or.inl he)]
        · rw [if_pos (Or.inr (hno _ _ he))]
      have hR : parseR t = (0, [], 2) := by
        unfold parseR
        rw [if_neg hl]
        by_cases he : t = []
        · subst he
          rw [if_pos]
          left; decide
        · split
          · rfl
          · rw [if_pos (Or.inr (hno _ _ he))]
      rw [hP, hR]
end Go.Proofs.YtgdbhmdhonnmgaaDoor
