/- TxD; TxH; TxI; ItTA; ItTB; ItTC (merged by group.py) -/
import Derived.Test.YtepgpejdnlejnaaDoorQ02
import Derived.Deep.RegionHeld3
import Derived.Lib.Strings
namespace Go.Proofs.YtepgpejdnlejnaaDoor
section
open Go.RowKit Go.Maps
set_option linter.unusedVariables false
set_option linter.unusedSimpArgs false
set_option linter.unusedSectionVars false
set_option maxRecDepth 100000
attribute [local go_sem] Oper.semAt_some

theorem byteU_drop (s : ByteArray) (i : Nat) (h : i < s.size) : s.data.toList.drop i = byteU s i :: s.data.toList.drop (i + 1) := by
  have h' : i < s.data.toList.length := by simpa using h
  rw [List.drop_eq_getElem_cons h', byteU, List.getD_eq_getElem?_getD, List.getElem?_eq_getElem h']
  rfl
/-- one more digit? -/
theorem tw_more : ∀ (l : List UInt8) (k : Nat), k ≤ (l.takeWhile isDg).length → (k < (l.takeWhile isDg).length ↔ ∃ c, l[k]? = some c ∧ isDg c = true)
  | [], k, h => by simp
  | a :: l, k, h => by
    cases ha : isDg a with
    | false =>
      rw [List.takeWhile_cons, ha] at h ⊢
      simp at h
      subst h
      simp [ha]
    | true =>
      rw [List.takeWhile_cons, ha] at h ⊢
      simp only [if_true, List.length_cons] at h ⊢
      cases k with
      | zero => simp [ha]
      | succ k =>
        rw [Nat.add_lt_add_iff_right, tw_more l k (by omega)]
        simp
theorem tw_get : ∀ (l : List UInt8) (k : Nat), k < (l.takeWhile isDg).length → (l.takeWhile isDg)[k]? = l[k]?
  | [], k, h => by simp at h
  | a :: l, k, h => by
    cases ha : isDg a with
    | false => rw [List.takeWhile_cons, ha] at h; simp at h
    | true =>
      rw [List.takeWhile_cons, ha] at h ⊢
      simp only [if_true, List.length_cons] at h ⊢
      cases k with
      | zero => rfl
      | succ k => simpa using tw_get l k (by omega)
theorem dgs_more (t : List UInt8) (k : Nat) (h : k ≤ (dgs t).length) : k < (dgs t).length ↔ k < 17 ∧ ∃ c, t[k]? = some c ∧ isDg c = true := by
  unfold dgs at h ⊢
  rw [tw_more _ _ h]
  constructor
  · rintro ⟨c, h1, h2⟩
    rw [List.getElem?_take] at h1
    split at h1
    · next hk => exact ⟨hk, c, h1, h2⟩
    · cases h1
  · rintro ⟨hk, c, h1, h2⟩
    exact ⟨c, by rw [List.getElem?_take, if_pos hk]; exact h1, h2⟩
theorem dgs_get (t : List UInt8) (k : Nat) (h : k < (dgs t).length) : (dgs t)[k]? = t[k]? := by
  have := ((dgs_more t k (Nat.le_of_lt h)).1 h).1
  unfold dgs at h ⊢
  rw [tw_get _ _ h, List.getElem?_take, if_pos this]
theorem dgs_le (t : List UInt8) : (dgs t).length ≤ 17 := by
  unfold dgs
  exact Nat.le_trans (List.takeWhile_sublist _).length_le (by rw [List.length_take]; omega)
theorem dgs_mem (t : List UInt8) : ∀ c ∈ dgs t, isDg c = true := fun c hc => by
  unfold dgs at hc
  exact List.all_eq_true.1 List.all_takeWhile c hc
theorem dig_step (acc d : Nat) (h : d ≤ 9) : acc * 10 + d + 1 ≤ (acc + 1) * 10 := by omega
theorem dg_sub {c : UInt8} (h : isDg c = true) : c.toNat - 48 ≤ 9 := by
  simp only [isDg, Bool.and_eq_true, decide_eq_true_eq] at h
  omega
theorem spell_lt1 (c : UInt8) (l : List UInt8) (acc : Nat) (hc : c.toNat - 48 ≤ 9) (ih : spell (acc * 10 + (c.toNat - 48)) l < (acc * 10 + (c.toNat - 48) + 1) * 10 ^ l.length) : spell (acc * 10 + (c.toNat - 48)) l < (acc + 1) * 10 ^ (l.length + 1) := by
  rw [Nat.pow_succ, Nat.mul_comm (10 ^ l.length) 10, ← Nat.mul_assoc]
  exact Nat.lt_of_lt_of_le ih (Nat.mul_le_mul_right _ (dig_step acc _ hc))
theorem spell_lt2 (c : UInt8) (l : List UInt8) (acc v : Nat)  (ih : spell (acc * 10 + (c.toNat - 48)) l < v) : spell acc (c :: l) < v := by
  unfold spell
  exact ih
theorem spell_lt : ∀ (l : List UInt8) (acc : Nat), (∀ c ∈ l, isDg c = true) → spell acc l < (acc + 1) * 10 ^ l.length
  | [], acc, _ => Nat.lt_of_lt_of_le (Nat.lt_succ_self acc) (Nat.le_of_eq (Nat.mul_one _).symm)
  | c :: l, acc, h => spell_lt2 c l acc _ (spell_lt1 c l acc (dg_sub (h c (List.mem_cons_self ..))) (spell_lt l _ (fun x hx => h x (List.mem_cons_of_mem _ hx))))
/-- the number that the first k digits at m spell -/
def spK (s : ByteArray) (m q : Nat) : Nat := spell 0 ((dgs (s.data.toList.drop m)).take (q - m))
def dgL (s : ByteArray) (m : Nat) : Nat := (dgs (s.data.toList.drop m)).length
theorem spK_lt (s : ByteArray) (m q : Nat) : spK s m q < 100000000000000000 := by
  have h1 := spell_lt ((dgs (s.data.toList.drop m)).take (q - m)) 0 (fun c hc => dgs_mem _ c (List.mem_of_mem_take hc))
  have h2 := dgs_le (s.data.toList.drop m)
  have h3 : ((dgs (s.data.toList.drop m)).take (q - m)).length ≤ 17 := by rw [List.length_take]; omega
  have h4 : 10 ^ ((dgs (s.data.toList.drop m)).take (q - m)).length ≤ 10 ^ 17 := Nat.pow_le_pow_right (by decide) h3
  unfold spK
  omega
theorem spK_lt16 (s : ByteArray) (m q : Nat) (h : q - m < 17) : spK s m q < 10000000000000000 := by
  have h1 := spell_lt ((dgs (s.data.toList.drop m)).take (q - m)) 0 (fun c hc => dgs_mem _ c (List.mem_of_mem_take hc))
  have h3 : ((dgs (s.data.toList.drop m)).take (q - m)).length ≤ 16 := by rw [List.length_take]; omega
  have h4 : 10 ^ ((dgs (s.data.toList.drop m)).take (q - m)).length ≤ 10 ^ 16 := Nat.pow_le_pow_right (by decide) h3
  unfold spK
  omega
theorem dg_at (s : ByteArray) (m q : Nat) (h1 : m ≤ q) (h2 : q ≤ m + dgL s m) : q < m + dgL s m ↔ q - m < 17 ∧ q < s.size ∧ 48 ≤ byteN s q ∧ byteN s q ≤ 57 := by
  have h := dgs_more (s.data.toList.drop m) (q - m) (by unfold dgL at h2; omega)
  have e : (s.data.toList.drop m)[q - m]? = s.data.toList[q]? := by rw [List.getElem?_drop]; congr 1; omega
  rw [e] at h
  have h0 : q < m + dgL s m ↔ q - m < (dgs (s.data.toList.drop m)).length := by unfold dgL; omega
  rw [h0, h]
  constructor
  · rintro ⟨a, c, hc, hd⟩
    have hq : q < s.size := by
      have := (List.getElem?_eq_some_iff.1 hc).1
      simpa using this
    have hu : byteU s q = c := by unfold byteU; rw [List.getD_eq_getElem?_getD, hc]; rfl
    simp only [isDg, Bool.and_eq_true, decide_eq_true_eq] at hd
    rw [byteU_N s q hq, hu]
    exact ⟨a, hq, by omega, by omega⟩
  · rintro ⟨a, hq, h48, h57⟩
    have hl : q < s.data.toList.length := by simpa using hq
    refine ⟨a, byteU s q, ?_, ?_⟩
    · unfold byteU; rw [List.getD_eq_getElem?_getD, List.getElem?_eq_getElem hl]; rfl
    · rw [byteU_N s q hq] at h48 h57
      simp only [isDg, Bool.and_eq_true, decide_eq_true_eq]
      omega
theorem spK_next (s : ByteArray) (m q : Nat) (h1 : m ≤ q) (h2 : q < m + dgL s m) : spK s m (q + 1) = 10 * spK s m q + (byteU s q).toNat - 48 ∧ 48 ≤ (byteU s q).toNat := by
  have h3 := (dg_at s m q h1 (by omega)).1 h2
  have hl : q < s.data.toList.length := by simpa using h3.2.1
  have hg : (dgs (s.data.toList.drop m))[q - m]? = some (byteU s q) := by
    rw [dgs_get _ _ (by unfold dgL at h2; omega), List.getElem?_drop, show m + (q - m) = q by omega, byteU, List.getD_eq_getElem?_getD, List.getElem?_eq_getElem hl]
    rfl
  have h48 : 48 ≤ (byteU s q).toNat := by have := h3.2.2.1; rw [byteU_N s q h3.2.1] at this; omega
  refine ⟨?_, h48⟩
  unfold spK
  rw [show q + 1 - m = (q - m) + 1 by omega, List.take_add_one, hg, spell_app]
  show spell 0 _ * 10 + ((byteU s q).toNat - 48) = _
  omega
theorem spK_zero (s : ByteArray) (m : Nat) : spK s m m = 0 := by unfold spK; rw [Nat.sub_self]; rfl
theorem magF_at (s : ByteArray) (m : Nat) (minus : Bool) :
    magF minus (s.data.toList.drop m) = if dgL s m = 0 ∨ (1 < dgL s m ∧ byteN s m = 48) ∨ (minus = true ∧ spK s m (m + dgL s m) = 0) ∨ 17 ≤ dgL s m then (0, 0)
      else (if minus then -(spK s m (m + dgL s m) : Int) else spK s m (m + dgL s m), (dgL s m : Int) + (if minus then 1 else 0)) := by
  have e1 : spK s m (m + dgL s m) = spell 0 (dgs (s.data.toList.drop m)) := by
    unfold spK dgL
    rw [Nat.add_sub_cancel_left, List.take_length]
  have e2 : dgs (s.data.toList.drop m) = [] ↔ dgL s m = 0 := by unfold dgL; exact List.length_eq_zero_iff.symm
  have e3 : 1 < dgL s m → ((s.data.toList.drop m).head? = some 48 ↔ byteN s m = 48) := fun h => by
    have hm := ((dg_at s m m (Nat.le_refl _) (by omega)).1 (by omega)).2.1
    rw [byteU_drop s m hm, List.head?_cons, byteU_N s m hm]
    constructor
    · intro e; injection e with e; rw [e]; decide
    · intro e
      congr 1
      apply UInt8.toNat_inj.1
      show _ = 48
      omega
  unfold magF
  rw [e1]
  have e4 : (1 < (dgs (s.data.toList.drop m)).length ∧ (s.data.toList.drop m).head? = some 48) ↔ (1 < dgL s m ∧ byteN s m = 48) := and_congr_right e3
  have e5 := or_congr e2 (or_congr e4 (Iff.refl (minus = true ∧ spell 0 (dgs (s.data.toList.drop m)) = 0 ∨ 17 ≤ (dgs (s.data.toList.drop m)).length)))
  by_cases hc : dgL s m = 0 ∨ (1 < dgL s m ∧ byteN s m = 48) ∨ (minus = true ∧ spell 0 (dgs (s.data.toList.drop m)) = 0) ∨ 17 ≤ dgL s m
  · rw [if_pos hc, if_pos (e5.2 hc)]
  · rw [if_neg hc, if_neg (fun h => hc (e5.1 h))]
    rfl
end
section
open Go
set_option linter.unusedVariables false
set_option linter.unusedSimpArgs false

theorem dg_of {c : UInt8} (h : isDg c = true) : 48 ≤ c.toNat ∧ c.toNat ≤ 57 := by simpa [isDg] using h
theorem dg_back {c : UInt8} (h : isDg c = true) : UInt8.ofNat (48 + (c.toNat - 48)) = c := by
  have := dg_of h
  rw [show 48 + (c.toNat - 48) = c.toNat by omega]
  exact UInt8.ofNat_toNat
theorem spell_pos : ∀ (l : List UInt8) (acc : Nat), 1 ≤ acc → 1 ≤ spell acc l := fun l acc h => Nat.le_trans h (spell_ge l acc)
/-- digits without a leading zero are those of the number that they spell -/
theorem dec_spell_aux : ∀ (n : Nat) (l : List UInt8), l.length = n → l ≠ [] → (∀ c ∈ l, isDg c = true) → (1 < l.length → l.head? ≠ some 48) → Lib.decDigits (spell 0 l) = l := by
  intro n
  induction n with
  | zero => intro l h0 hne; exact absurd (List.length_eq_zero_iff.1 h0) hne
  | succ n ih =>
    intro l hl hne hd hz
    obtain ⟨xs, c, rfl⟩ : ∃ xs c, l = xs ++ [c] := ⟨l.dropLast, l.getLast hne, (List.dropLast_concat_getLast hne).symm⟩
    have hc := hd c (by simp)
    have hc' := dg_of hc
    have hs : spell 0 (xs ++ [c]) = spell 0 xs * 10 + (c.toNat - 48) := by rw [spell_app]; rfl
    by_cases hx : xs = []
    · subst hx
      have e : spell 0 ([] ++ [c]) = c.toNat - 48 := by rw [hs]; show 0 * 10 + _ = _; omega
      rw [e, Lib.decDigits, dif_pos (by omega), dg_back hc]
      rfl
    · have hhead : xs.head? ≠ some 48 := by
        have h1 := hz (by cases xs with
          | nil => exact absurd rfl hx
          | cons x r => simp)
        cases xs with
        | nil => exact absurd rfl hx
        | cons x r => simpa using h1
      have h1 : 1 ≤ spell 0 xs := by
        cases xs with
        | nil => exact absurd rfl hx
        | cons x r =>
          have hxd := dg_of (hd x (by simp))
          have hx48 : x ≠ 48 := fun e => hhead (by simp [e])
          have : x.toNat ≠ 48 := fun e => hx48 (UInt8.toNat_inj.1 (by simpa using e))
          show 1 ≤ spell (0 * 10 + (x.toNat - 48)) r
          exact spell_pos _ _ (by omega)
      have hih := ih xs (by simp at hl; exact hl) hx (fun y hy => hd y (by simp [hy])) (fun _ => hhead)
      rw [hs, Lib.decDigits, dif_neg (by omega), show (spell 0 xs * 10 + (c.toNat - 48)) / 10 = spell 0 xs by omega, show (spell 0 xs * 10 + (c.toNat - 48)) % 10 = c.toNat - 48 by omega, hih, dg_back hc]
theorem dgs_digit (t : List UInt8) : ∀ c ∈ dgs t, isDg c = true := by
  have key : ∀ (l : List UInt8) (c : UInt8), c ∈ l.takeWhile isDg → isDg c = true := by
    intro l
    induction l with
    | nil => intro c h; simp at h
    | cons x l ih =>
      intro c h
      rw [List.takeWhile_cons] at h
      split at h
      · rename_i hx
        rcases List.mem_cons.1 h with rfl | h
        · exact hx
        · exact ih c h
      · simp at h
  exact key _
theorem dgs_pre (t : List UInt8) (h : (dgs t).length = t.length) : dgs t = t := by
  have h1 : dgs t <+: t := (List.takeWhile_prefix _).trans (List.take_prefix _ _)
  exact h1.eq_of_length h
theorem mag_inv (m : Bool) (t : List UInt8) (h0 : 0 < (magF m t).2) (h1 : (magF m t).2 = (t.length : Int) + (if m then 1 else 0)) :
    (∀ c ∈ t, isDg c = true) ∧ t ≠ [] ∧ (1 < t.length → t.head? ≠ some 48) ∧ (m = true → spell 0 t ≠ 0) ∧ (magF m t).1 = (if m then -(spell 0 t : Int) else (spell 0 t : Int)) := by
  unfold magF at *
  split at h0
  · simp at h0
  · rename_i hc
    rw [if_neg hc] at h1 ⊢
    simp only at h1
    have hl : (dgs t).length = t.length := by omega
    have e := dgs_pre t hl
    rw [e] at hc
    simp only [not_or, not_and] at hc
    obtain ⟨c1, c2, c3, c4⟩ := hc
    refine ⟨fun c hcm => dgs_digit t c (by rw [e]; exact hcm), c1, c2, c3, ?_⟩
    rw [e]
/-- a word that the reference reads whole is the number, written -/
theorem whole_inv (t : List UInt8) (h : (wholeF t).2 = true) : Lib.itoa (wholeF t).1 = t := by
  have h' : 0 < (numF t).2 ∧ (numF t).2 = (t.length : Int) := by
    unfold wholeF at h
    simpa using h
  show Lib.itoa (numF t).1 = t
  unfold numF at *
  split at h'
  · rename_i hm
    rw [if_pos hm]
    cases t with
    | nil => simp at hm
    | cons x r =>
      simp only [List.head?_cons, Option.some.injEq] at hm
      subst hm
      simp only [List.tail_cons] at h' ⊢
      obtain ⟨a1, a2, a3, a4, a5⟩ := mag_inv true r h'.1 (by rw [h'.2]; simp)
      rw [a5]
      simp only [if_true]
      have hp : spell 0 r ≠ 0 := a4 rfl
      unfold Lib.itoa
      rw [if_pos (by omega), show (-(spell 0 r : Int)).natAbs = spell 0 r by omega, dec_spell_aux _ r rfl a2 a1 a3]
  · rename_i hm
    rw [if_neg hm]
    obtain ⟨a1, a2, a3, a4, a5⟩ := mag_inv false t h'.1 (by rw [h'.2]; simp)
    rw [a5]
    simp only [Bool.false_eq_true, if_false]
    unfold Lib.itoa
    rw [if_neg (by omega), show ((spell 0 t : Nat) : Int).toNat = spell 0 t by omega, dec_spell_aux _ t rfl a2 a1 a3]
end
section
open Go
set_option linter.unusedVariables false
set_option linter.unusedSimpArgs false

/-- a text cut at each "; " -/
def cutS : List UInt8 → List (List UInt8)
  | [] => [[]]
  | x :: r => match x == 59, r with
    | true, 32 :: r' => [] :: cutS r'
    | _, r => hdc x (cutS r)
theorem cutS_sep (r : List UInt8) : cutS (59 :: 32 :: r) = [] :: cutS r := by rw [cutS]; rfl
theorem cutS_cons (x : UInt8) (r : List UInt8) (h : ¬ (x = 59 ∧ r.head? = some 32)) : cutS (x :: r) = hdc x (cutS r) := by
  rw [cutS]
  intro r' h1 h2
  exact h ⟨by simpa using h1, by rw [h2]; rfl⟩
theorem cutS_ne (t : List UInt8) : cutS t ≠ [] := by
  cases t with
  | nil => rw [cutS]; simp
  | cons x r =>
    by_cases hc : x = 59 ∧ r.head? = some 32
    · obtain ⟨rfl, h2⟩ := hc
      cases r with
      | nil => simp at h2
      | cons y r =>
        simp only [List.head?_cons, Option.some.injEq] at h2
        subst h2
        rw [cutS_sep]
        simp
    · rw [cutS_cons _ _ hc]
      cases cutS r <;> simp [hdc]
theorem cutS_app (r : List UInt8) : ∀ p : List UInt8, (59 : UInt8) ∉ p → cutS (p ++ 59 :: 32 :: r) = p :: cutS r
  | [], _ => cutS_sep r
  | x :: p, h => by
    simp only [List.mem_cons, not_or] at h
    rw [List.cons_append, cutS_cons _ _ (fun e => h.1 e.1.symm), cutS_app r p h.2]
    rfl
theorem cutS_none : ∀ p : List UInt8, (59 : UInt8) ∉ p → cutS p = [p]
  | [], _ => by rw [cutS]
  | x :: p, h => by
    simp only [List.mem_cons, not_or] at h
    rw [cutS_cons _ _ (fun e => h.1 e.1.symm), cutS_none p h.2]
    rfl
theorem join2 (a b : List UInt8) (l : List (List UInt8)) (s : List UInt8) : Lib.join (a :: b :: l) s = a ++ s ++ Lib.join (b :: l) s := by
  simp [Lib.join, List.intercalate]
theorem join1 (a : List UInt8) (s : List UInt8) : Lib.join [a] s = a := by simp [Lib.join, List.intercalate]
theorem cutS_join : ∀ (ws : List (List UInt8)), ws ≠ [] → (∀ x ∈ ws, (59 : UInt8) ∉ x) → cutS (Lib.join ws [59, 32]) = ws
  | [], h, _ => absurd rfl h
  | [a], _, h => by rw [join1]; exact cutS_none a (h a (by simp))
  | a :: b :: l, _, h => by
    have := cutS_join (b :: l) (by simp) (fun x hx => h x (List.mem_cons_of_mem _ hx))
    rw [join2, List.append_assoc]
    show cutS (a ++ 59 :: 32 :: Lib.join (b :: l) [59, 32]) = _
    rw [cutS_app _ a (h a (by simp)), this]
theorem join_hdc (x : UInt8) (l : List (List UInt8)) (s : List UInt8) (h : l ≠ []) : Lib.join (hdc x l) s = x :: Lib.join l s := by
  match l, h with
  | [a], _ => simp [hdc, join1]
  | a :: b :: l, _ => simp [hdc, join2]
theorem join_nil_cons (l : List (List UInt8)) (s : List UInt8) (h : l ≠ []) : Lib.join ([] :: l) s = s ++ Lib.join l s := by
  match l, h with
  | b :: l, _ => rw [join2]; rfl
/-- what is cut and joined again is the text -/
theorem join_cutS : ∀ (n : Nat) (t : List UInt8), t.length ≤ n → Lib.join (cutS t) [59, 32] = t
  | _, [], _ => by rw [cutS, join1]
  | 0, x :: r, h => by simp at h
  | n + 1, x :: r, h => by
    by_cases hc : x = 59 ∧ r.head? = some 32
    · obtain ⟨rfl, h2⟩ := hc
      cases r with
      | nil => simp at h2
      | cons y r =>
        simp only [List.head?_cons, Option.some.injEq] at h2
        subst h2
        rw [cutS_sep, join_nil_cons _ _ (cutS_ne r), join_cutS n r (by simp at h; omega)]
        rfl
    · rw [cutS_cons _ _ hc, join_hdc _ _ _ (cutS_ne r), join_cutS n r (by simp at h; omega)]
theorem join_cutC (c : UInt8) : ∀ (t : List UInt8), Lib.join (cutC c t) [c] = t
  | [] => by rw [cutC, join1]
  | x :: r => by
    rw [cutC]
    split
    · rename_i e
      subst e
      rw [join_nil_cons _ _ (cutC_ne _ r), join_cutC x r]
      rfl
    · rw [join_hdc _ _ _ (cutC_ne _ r), join_cutC c r]
end
section
open Go
set_option linter.unusedVariables false
set_option linter.unusedSimpArgs false
set_option linter.unusedSectionVars false

/-- a value: kind, number, text -/
abbrev VlP := Int × Int × List UInt8
def hexP (k : Nat) : UInt8 := UInt8.ofNat (if k < 10 then 48 + k else 87 + k)
def escP (c : UInt8) : List UInt8 := if c = 34 ∨ c = 92 then [92, c] else if c < 32 ∨ 126 < c then [92, 120, hexP (c.toNat / 16), hexP (c.toNat % 16)] else [c]
def wrP (v : VlP) : List UInt8 := if v.1 = 1 then Lib.itoa v.2.1 else 34 :: (v.2.2.flatMap escP ++ [34])
def textP (l : List VlP) : List UInt8 := Lib.join (l.map wrP) [44]
/-- the value of a hexadecimal digit, as strconv reads it -/
def hexD (c : UInt8) : Option Nat :=
  if 48 ≤ c.toNat ∧ c.toNat ≤ 57 then some (c.toNat - 48) else if 97 ≤ c.toNat ∧ c.toNat ≤ 102 then some (c.toNat - 87) else if 65 ≤ c.toNat ∧ c.toNat ≤ 70 then some (c.toNat - 55) else none
/-- two hexadecimal digits in front -/
def hex2 : List UInt8 → Option (UInt8 × List UInt8)
  | a :: b :: r => match hexD a, hexD b with
    | some x, some y => some (UInt8.ofNat (16 * x + y), r)
    | _, _ => none
  | _ => none
/-- what stands behind a backslash -/
def escD : List UInt8 → Option (UInt8 × List UInt8)
  | [] => none
  | d :: r => if d = 120 then hex2 r else some (d, r)
/-- the reader's text, behind the quote: the bytes and what is left behind the closing quote; none where it stops -/
def readTx : Nat → List UInt8 → Option (List UInt8 × List UInt8)
  | 0, _ => none
  | n + 1, t => match t with
    | [] => none
    | c :: r => if c = 34 then some ([], r) else match (if c = 92 then escD r else some (c, r)) with
      | none => none
      | some (d, r') => (readTx n r').map fun z => (d :: z.1, z.2)
theorem readTx_cons (n : Nat) (c : UInt8) (r : List UInt8) : readTx (n + 1) (c :: r) = if c = 34 then some ([], r) else match (if c = 92 then escD r else some (c, r)) with
      | none => none
      | some (d, r') => (readTx n r').map fun z => (d :: z.1, z.2) := rfl
/-- a number as the reader takes it: up to the next comma, and written so again -/
def numP (w : List UInt8) : Option Int := match Lib.atoiAll w with
  | .ok _ => if Lib.itoa (atoiV w) = w then some (atoiV w) else none
  | _ => none
def readVl (t : List UInt8) : Option (VlP × List UInt8) :=
  if t.head? = some 34 then (readTx t.length t.tail).map fun z => ((2, 0, z.1), z.2)
  else (numP (t.takeWhile fun c => c != 44)).map fun n => ((1, n, []), t.dropWhile fun c => c != 44)
def readAll : Nat → List UInt8 → Option (List VlP)
  | 0, _ => none
  | n + 1, t => match readVl t with
    | none => none
    | some (v, []) => some [v]
    | some (v, c :: r) => if c = 44 then (readAll n r).map fun l => v :: l else none
structure VlOk (v : VlP) : Prop where
  k : (v.1 = 1 ∧ v.2.2 = [] ∧ -1000000000 ≤ v.2.1 ∧ v.2.1 ≤ 1000000000) ∨ (v.1 = 2 ∧ v.2.1 = 0)

theorem hex_back (k : Nat) (h : k < 16) : hexD (hexP k) = some k := by
  have : ∀ k : Fin 16, hexD (hexP k.1) = some k.1 := by decide
  exact this ⟨k, h⟩
theorem hex_sum (c : UInt8) : UInt8.ofNat (16 * (c.toNat / 16) + c.toNat % 16) = c := by
  rw [show 16 * (c.toNat / 16) + c.toNat % 16 = c.toNat by omega]
  exact UInt8.ofNat_toNat
theorem readTx_esc : ∀ (s r : List UInt8) (n : Nat), s.length < n → readTx n (s.flatMap escP ++ 34 :: r) = some (s, r)
  | [], r, 0, h => by simp at h
  | [], r, n + 1, h => by
    show readTx (n + 1) (34 :: r) = _
    rw [readTx_cons, if_pos rfl]
  | c :: s, r, 0, h => by simp at h
  | c :: s, r, n + 1, h => by
    have ih := readTx_esc s r n (by simp at h; omega)
    rw [List.flatMap_cons, List.append_assoc]
    unfold escP
    split
    · rename_i hc
      show readTx (n + 1) (92 :: c :: (s.flatMap escP ++ 34 :: r)) = _
      have e : escD (c :: (s.flatMap escP ++ 34 :: r)) = some (c, s.flatMap escP ++ 34 :: r) := by
        show (if c = 120 then _ else _) = _
        rw [if_neg (by rcases hc with rfl | rfl <;> decide)]
      rw [readTx_cons, if_neg (by decide), if_pos rfl, e]
      simp only
      rw [ih]
      rfl
    · rename_i hc
      split
      · show readTx (n + 1) (92 :: 120 :: hexP (c.toNat / 16) :: hexP (c.toNat % 16) :: (s.flatMap escP ++ 34 :: r)) = _
        have e : escD (120 :: hexP (c.toNat / 16) :: hexP (c.toNat % 16) :: (s.flatMap escP ++ 34 :: r)) = some (c, s.flatMap escP ++ 34 :: r) := by
          show (match hexD (hexP (c.toNat / 16)), hexD (hexP (c.toNat % 16)) with
            | some x, some y => some (UInt8.ofNat (16 * x + y), s.flatMap escP ++ 34 :: r)
            | _, _ => none) = _
          rw [hex_back _ (by have := c.toNat_lt; omega), hex_back _ (by omega)]
          simp only
          rw [hex_sum]
        rw [readTx_cons, if_neg (by decide), if_pos rfl, e]
        simp only
        rw [ih]
        rfl
      · show readTx (n + 1) (c :: (s.flatMap escP ++ 34 :: r)) = _
        rw [readTx_cons, if_neg (fun e => hc (.inl e)), if_neg (fun e => hc (.inr e))]
        simp only
        rw [ih]
        rfl
theorem numP_itoa (n : Int) (h0 : -9223372036854775808 ≤ n) (h1 : n ≤ 9223372036854775807) : numP (Lib.itoa n) = some n := by
  have hv := atoiV_itoa n h0 h1
  unfold numP
  rw [atoi_itoa n h0 h1]
  simp only
  rw [hv, if_pos rfl]
theorem escP_len : ∀ (s : List UInt8), s.length ≤ (s.flatMap escP).length
  | [] => by simp
  | c :: s => by
    have ih := escP_len s
    have : 1 ≤ (escP c).length := by
      unfold escP
      split
      · simp
      · split <;> simp
    rw [List.flatMap_cons, List.length_append, List.length_cons]
    omega
theorem takeW (p : UInt8 → Bool) : ∀ (l r : List UInt8), (∀ c ∈ l, p c = true) → (r = [] ∨ ∃ c q, r = c :: q ∧ p c = false) → (l ++ r).takeWhile p = l ∧ (l ++ r).dropWhile p = r
  | [], r, _, h => by
    rcases h with rfl | ⟨c, q, rfl, h⟩
    · exact ⟨rfl, rfl⟩
    · simp [h]
  | x :: l, r, hl, h => by
    have ih := takeW p l r (fun c hc => hl c (List.mem_cons_of_mem _ hc)) h
    simp [hl x (by simp), ih.1, ih.2]
theorem readVl_wr (v : VlP) (h : VlOk v) (r : List UInt8) (hr : r = [] ∨ ∃ q, r = 44 :: q) : readVl (wrP v ++ r) = some (v, r) := by
  obtain ⟨k, n, s⟩ := v
  unfold readVl wrP
  rcases h.k with ⟨h1, h2, h3, h4⟩ | ⟨h1, h2⟩
  · simp only at h1 h2 h3 h4
    subst h1 h2
    simp only [if_true]
    have hne : Lib.itoa n ≠ [] := by
      unfold Lib.itoa
      split
      · simp
      · exact dec_ne _
    have hh : (Lib.itoa n ++ r).head? ≠ some 34 := by
      have hno := itoa_no n 34 (by decide)
      cases hi : Lib.itoa n with
      | nil => exact absurd hi hne
      | cons x q =>
        rw [hi] at hno
        simp only [List.mem_cons, not_or] at hno
        simp only [List.cons_append, List.head?_cons, ne_eq, Option.some.injEq]
        exact fun e => hno.1 e.symm
    rw [if_neg hh]
    have ht := takeW (fun c => c != 44) (Lib.itoa n) r (fun c hc => by
      have hno := itoa_no n 44 (by decide)
      simp only [bne_iff_ne, ne_eq]
      exact fun e => hno (e ▸ hc)) (by
      rcases hr with rfl | ⟨q, rfl⟩
      · exact .inl rfl
      · exact .inr ⟨44, q, rfl, by decide⟩)
    rw [ht.1, ht.2, numP_itoa n (by omega) (by omega)]
    rfl
  · simp only at h1 h2
    subst h1 h2
    simp only [show ((2 : Int) = 1) = False from by simp, if_false]
    rw [if_pos (by rfl)]
    have hl := escP_len s
    show (readTx _ ((s.flatMap escP ++ [34]) ++ r)).map _ = _
    rw [List.append_assoc]
    show (readTx _ (s.flatMap escP ++ 34 :: r)).map _ = _
    rw [readTx_esc s r _ (by simp only [List.length_append, List.length_cons, List.length_nil, List.cons_append]; omega)]
    rfl
theorem readAll_text : ∀ (l : List VlP) (n : Nat), l ≠ [] → (∀ v ∈ l, VlOk v) → l.length ≤ n → readAll n (textP l) = some l
  | [], _, h, _, _ => absurd rfl h
  | [v], 0, _, _, hn => by simp at hn
  | v :: u :: l, 0, _, _, hn => by simp at hn
  | [v], n + 1, _, hv, hn => by
    have := readVl_wr v (hv v (by simp)) [] (.inl rfl)
    rw [List.append_nil] at this
    unfold textP
    rw [List.map_cons, List.map_nil, join1, readAll, this]
  | v :: u :: l, n + 1, _, hv, hn => by
    have ih := readAll_text (u :: l) n (by simp) (fun x hx => hv x (List.mem_cons_of_mem _ hx)) (by simp at hn ⊢; omega)
    have := readVl_wr v (hv v (by simp)) (44 :: textP (u :: l)) (.inr ⟨_, rfl⟩)
    have e : textP (v :: u :: l) = wrP v ++ 44 :: textP (u :: l) := by
      unfold textP
      rw [List.map_cons, List.map_cons, join2, List.append_assoc]
      rfl
    rw [e, readAll, this]
    simp only
    rw [if_pos trivial, ih]
    rfl
end
section
open Go
set_option linter.unusedVariables false
set_option linter.unusedSimpArgs false
set_option linter.unusedSectionVars false

/-- a number in front, read: what is written of it stands there -/
theorem mag_pre (m : Bool) (t : List UInt8) (h0 : 0 < (magF m t).2) :
    ∃ ds, ds ≠ [] ∧ (∃ q, t = ds ++ q) ∧ Lib.decDigits (spell 0 ds) = ds ∧ (m = true → spell 0 ds ≠ 0) ∧ magF m t = ((if m then -(spell 0 ds : Int) else (spell 0 ds : Int)), (ds.length : Int) + (if m then 1 else 0)) := by
  unfold magF at *
  split at h0
  · simp at h0
  · rename_i hc
    rw [if_neg hc]
    simp only [not_or, not_and] at hc
    obtain ⟨c1, c2, c3, c4⟩ := hc
    have hp : dgs t <+: t := (List.takeWhile_prefix _).trans (List.take_prefix _ _)
    obtain ⟨q, hq⟩ := hp
    refine ⟨dgs t, c1, ⟨q, hq.symm⟩, dec_spell_aux _ (dgs t) rfl c1 (dgs_digit t) (fun h1 => ?_), c3, rfl⟩
    have := c2 h1
    rw [← hq] at this
    cases hd : dgs t with
    | nil => exact absurd hd c1
    | cons x r =>
      rw [hd] at this
      simpa using this
theorem num_pre (t : List UInt8) (h0 : 0 < (numF t).2) : t = Lib.itoa (numF t).1 ++ t.drop (numF t).2.toNat := by
  unfold numF at *
  split at h0
  · rename_i hm
    rw [if_pos hm]
    cases t with
    | nil => simp at hm
    | cons x r =>
      simp only [List.head?_cons, Option.some.injEq] at hm
      subst hm
      simp only [List.tail_cons] at h0 ⊢
      obtain ⟨ds, h1, ⟨q, hq⟩, h3, h4, h5⟩ := mag_pre true r h0
      rw [h5]
      simp only [if_true]
      have hp := h4 rfl
      unfold Lib.itoa
      rw [if_pos (by omega), show (-(spell 0 ds : Int)).natAbs = spell 0 ds by omega, h3, show ((ds.length : Int) + 1).toNat = ds.length + 1 by omega, List.drop_succ_cons, hq, List.drop_left]
      rfl
  · rename_i hm
    rw [if_neg hm]
    obtain ⟨ds, h1, ⟨q, hq⟩, h3, h4, h5⟩ := mag_pre false t h0
    rw [h5]
    simp only [Bool.false_eq_true, if_false]
    unfold Lib.itoa
    rw [if_neg (by omega), show ((spell 0 ds : Nat) : Int).toNat = spell 0 ds by omega, h3, show ((ds.length : Int) + 0).toNat = ds.length by omega]
    conv => lhs; rw [hq]
    rw [hq, List.drop_left]
/-- a small hexadecimal digit -/
def nibD (c : UInt8) : Option Nat := if 48 ≤ c.toNat ∧ c.toNat ≤ 57 then some (c.toNat - 48) else if 97 ≤ c.toNat ∧ c.toNat ≤ 102 then some (c.toNat - 87) else none
def nib2 : List UInt8 → Option (UInt8 × List UInt8)
  | a :: b :: r => match nibD a, nibD b with
    | some x, some y => if 32 ≤ 16 * x + y ∧ 16 * x + y ≤ 126 then none else some (UInt8.ofNat (16 * x + y), r)
    | _, _ => none
  | _ => none
def escR : List UInt8 → Option (UInt8 × List UInt8)
  | [] => none
  | d :: r => if d = 34 ∨ d = 92 then some (d, r) else if d = 120 then nib2 r else none
/-- the reference's text, behind the quote -/
def quoteR : Nat → List UInt8 → Option (List UInt8 × List UInt8)
  | 0, _ => none
  | n + 1, t => match t with
    | [] => none
    | c :: r => if c = 34 then some ([], r) else match (if c < 32 ∨ 126 < c then none else if c = 92 then escR r else some (c, r)) with
      | none => none
      | some (d, r') => (quoteR n r').map fun z => (d :: z.1, z.2)
theorem nib_hex (c : UInt8) (k : Nat) (h : nibD c = some k) : k < 16 ∧ hexP k = c := by
  have : ∀ c : Fin 256, ∀ k, nibD (UInt8.ofNat c.1) = some k → k < 16 ∧ hexP k = UInt8.ofNat c.1 := by
    intro c k h
    unfold nibD at h
    have hc : (UInt8.ofNat c.1).toNat = c.1 := by first | (simp; done) | (simp; omega)
    rw [hc] at h
    split at h
    · injection h with h
      subst h
      refine ⟨by omega, ?_⟩
      unfold hexP
      rw [if_pos (by omega), show 48 + (c.1 - 48) = c.1 by omega]
    · split at h
      · injection h with h
        subst h
        refine ⟨by omega, ?_⟩
        unfold hexP
        rw [if_neg (by omega), show 87 + (c.1 - 87) = c.1 by omega]
      · cases h
  have e : UInt8.ofNat c.toNat = c := UInt8.ofNat_toNat
  have := this ⟨c.toNat, c.toNat_lt⟩ k (by rw [e]; exact h)
  rw [e] at this
  exact this
theorem quoteR_inv : ∀ (n : Nat) (t s r : List UInt8), quoteR n t = some (s, r) → t = s.flatMap escP ++ 34 :: r
  | 0, t, s, r, h => by cases h
  | n + 1, [], s, r, h => by cases h
  | n + 1, c :: q, s, r, h => by
    have hq : quoteR (n + 1) (c :: q) = if c = 34 then some ([], q) else match (if c < 32 ∨ 126 < c then none else if c = 92 then escR q else some (c, q)) with
      | none => none
      | some (d, r') => (quoteR n r').map fun z => (d :: z.1, z.2) := rfl
    rw [hq] at h
    split at h
    · rename_i e
      injection h with h
      injection h with h1 h2
      subst h1 h2 e
      rfl
    · rename_i e
      cases hx : (if c < 32 ∨ 126 < c then none else if c = 92 then escR q else some (c, q)) with
      | none => rw [hx] at h; cases h
      | some z =>
        obtain ⟨d, r'⟩ := z
        rw [hx] at h
        simp only at h
        cases hr : quoteR n r' with
        | none => rw [hr] at h; cases h
        | some z =>
          obtain ⟨s', r''⟩ := z
          rw [hr] at h
          injection h with h
          injection h with h1 h2
          subst h1 h2
          have ih := quoteR_inv n r' s' r'' hr
          have key : c :: q = escP d ++ r' := by
            split at hx
            · cases hx
            · rename_i hrange
              split at hx
              · rename_i e92
                subst e92
                cases q with
                | nil => cases hx
                | cons d' q =>
                  have hE : escR (d' :: q) = if d' = 34 ∨ d' = 92 then some (d', q) else if d' = 120 then nib2 q else none := rfl
                  rw [hE] at hx
                  split at hx
                  · rename_i hd
                    injection hx with hx
                    injection hx with h1 h2
                    subst h1 h2
                    unfold escP
                    rw [if_pos hd]
                    rfl
                  · split at hx
                    · rename_i hd
                      subst hd
                      match q, hx with
                      | a :: b :: q, hx =>
                        have hE2 : nib2 (a :: b :: q) = match nibD a, nibD b with
                          | some x, some y => if 32 ≤ 16 * x + y ∧ 16 * x + y ≤ 126 then none else some (UInt8.ofNat (16 * x + y), q)
                          | _, _ => none := rfl
                        rw [hE2] at hx
                        cases ha : nibD a with
                        | none => rw [ha] at hx; cases hx
                        | some x =>
                          cases hb : nibD b with
                          | none => rw [ha, hb] at hx; cases hx
                          | some y =>
                            rw [ha, hb] at hx
                            simp only at hx
                            split at hx
                            · cases hx
                            · rename_i hv
                              injection hx with hx
                              injection hx with h1 h2
                              subst h1 h2
                              obtain ⟨hx16, hxa⟩ := nib_hex a x ha
                              obtain ⟨hy16, hyb⟩ := nib_hex b y hb
                              have hT : (UInt8.ofNat (16 * x + y)).toNat = 16 * x + y := by first | (simp; done) | (simp; omega)
                              unfold escP
                              rw [if_neg, if_pos, hT, show (16 * x + y) / 16 = x by omega, show (16 * x + y) % 16 = y by omega, hxa, hyb]
                              · rfl
                              · rw [UInt8.lt_iff_toNat_lt, UInt8.lt_iff_toNat_lt, hT]
                                show 16 * x + y < 32 ∨ 126 < 16 * x + y
                                omega
                              · rintro (e | e)
                                · have := congrArg UInt8.toNat e
                                  rw [hT] at this
                                  have : 16 * x + y = 34 := this
                                  omega
                                · have := congrArg UInt8.toNat e
                                  rw [hT] at this
                                  have : 16 * x + y = 92 := this
                                  omega
                    · cases hx
              · rename_i e92
                injection hx with hx
                injection hx with h1 h2
                subst h1 h2
                unfold escP
                rw [if_neg (by rintro (e' | e'); exact e e'; exact e92 e'), if_neg hrange]
                rfl
          rw [key, ih, List.flatMap_cons, List.append_assoc]
end
section
open Go
set_option linter.unusedVariables false
set_option linter.unusedSimpArgs false
set_option linter.unusedSectionVars false

def literalR (t : List UInt8) : Option (VlP × List UInt8) :=
  if t.head? = some 34 then (quoteR t.length t.tail).map fun z => ((2, 0, z.1), z.2)
  else if 0 < (numF t).2 then some ((1, (numF t).1, []), t.drop (numF t).2.toNat) else none
def readAllR : Nat → List UInt8 → Option (List VlP)
  | 0, _ => none
  | n + 1, t => match literalR t with
    | none => none
    | some (v, []) => some [v]
    | some (v, c :: r) => if c = 44 then (readAllR n r).map fun l => v :: l else none
theorem literalR_inv {t r : List UInt8} {v : VlP} (h : literalR t = some (v, r)) : t = wrP v ++ r := by
  unfold literalR at h
  split at h
  · rename_i hh
    cases t with
    | nil => simp at hh
    | cons x q =>
      simp only [List.head?_cons, Option.some.injEq] at hh
      subst hh
      simp only [List.tail_cons] at h
      cases hq : quoteR (34 :: q).length q with
      | none => rw [hq] at h; cases h
      | some z =>
        obtain ⟨s, r'⟩ := z
        rw [hq] at h
        injection h with h
        injection h with h1 h2
        subst h1 h2
        have := quoteR_inv _ _ _ _ hq
        rw [this]
        show 34 :: (s.flatMap escP ++ 34 :: r') = (if (2 : Int) = 1 then _ else 34 :: (s.flatMap escP ++ [34])) ++ r'
        rw [if_neg (by decide)]
        simp
  · split at h
    · rename_i h0
      injection h with h
      injection h with h1 h2
      subst h1 h2
      show t = (if (1 : Int) = 1 then Lib.itoa (numF t).1 else _) ++ _
      rw [if_pos rfl]
      exact num_pre t h0
    · cases h
theorem readAllR_inv : ∀ (n : Nat) (t : List UInt8) (l : List VlP), readAllR n t = some l → l ≠ [] ∧ textP l = t
  | 0, t, l, h => by cases h
  | n + 1, t, l, h => by
    rw [readAllR] at h
    cases hl : literalR t with
    | none => rw [hl] at h; cases h
    | some z =>
      obtain ⟨v, r⟩ := z
      rw [hl] at h
      have hi := literalR_inv hl
      cases r with
      | nil =>
        injection h with h
        subst h
        refine ⟨by simp, ?_⟩
        unfold textP
        rw [List.map_cons, List.map_nil, join1, hi, List.append_nil]
      | cons c q =>
        simp only at h
        split at h
        · rename_i hc
          subst hc
          cases hr : readAllR n q with
          | none => rw [hr] at h; cases h
          | some l' =>
            rw [hr] at h
            injection h with h
            subst h
            obtain ⟨h1, h2⟩ := readAllR_inv n q l' hr
            refine ⟨by simp, ?_⟩
            cases l' with
            | nil => exact absurd rfl h1
            | cons u l' =>
              unfold textP at h2 ⊢
              rw [List.map_cons] at h2 ⊢
              rw [List.map_cons, join2, h2, hi, List.append_assoc]
              rfl
        · cases h
theorem mag_app (m : Bool) (ds r : List UInt8) (h : dgs (ds ++ r) = dgs ds) (hne : ds ≠ []) : magF m (ds ++ r) = magF m ds := by
  have hh : (ds ++ r).head? = ds.head? := by
    cases ds with
    | nil => exact absurd rfl hne
    | cons x q => rfl
  unfold magF
  rw [h, hh]
theorem dgs_app (ds r : List UInt8) (hd : ∀ c ∈ ds, isDg c = true) (hl : ds.length ≤ 17) (hr : r = [] ∨ ∃ q, r = 44 :: q) : dgs (ds ++ r) = dgs ds := by
  rw [dgs_all hd hl]
  unfold dgs
  rw [List.take_append, List.take_of_length_le hl]
  refine (takeW isDg ds _ hd ?_).1
  rcases hr with rfl | ⟨q, rfl⟩
  · exact .inl (by simp)
  · cases hk : 17 - ds.length with
    | zero => exact .inl rfl
    | succ k => exact .inr ⟨44, q.take k, rfl, by decide⟩
theorem num_app (n : Int) (h0 : -1000000000 ≤ n) (h1 : n ≤ 1000000000) (r : List UInt8) (hr : r = [] ∨ ∃ q, r = 44 :: q) : numF (Lib.itoa n ++ r) = numF (Lib.itoa n) := by
  have hlen : (Lib.decDigits n.natAbs).length ≤ 17 := by have := dec_len n.natAbs 9 (by omega); omega
  unfold Lib.itoa
  split
  · have e : ∀ q, numF (45 :: q) = magF true q := fun q => by
      unfold numF
      rw [if_pos (by rfl)]
      rfl
    rw [List.cons_append, e, e]
    exact mag_app true _ r (dgs_app _ r (dec_isDg _) hlen hr) (dec_ne _)
  · rename_i hn
    rw [show n.toNat = n.natAbs by omega]
    have hne := dec_ne n.natAbs
    have hh : (Lib.decDigits n.natAbs ++ r).head? = (Lib.decDigits n.natAbs).head? := by
      cases hd : Lib.decDigits n.natAbs with
      | nil => exact absurd hd hne
      | cons x q => rfl
    have hm : (Lib.decDigits n.natAbs).head? ≠ some 45 := by
      cases hd : Lib.decDigits n.natAbs with
      | nil => exact absurd hd hne
      | cons x q =>
        have := dec_digit n.natAbs x (by rw [hd]; simp)
        simp only [List.head?_cons, ne_eq, Option.some.injEq]
        rintro rfl
        simp at this
    unfold numF
    rw [hh, if_neg hm, if_neg hm]
    exact mag_app false _ r (dgs_app _ r (dec_isDg _) hlen hr) hne
theorem nib_back (k : Nat) (h : k < 16) : nibD (hexP k) = some k := by
  have : ∀ k : Fin 16, nibD (hexP k.1) = some k.1 := by decide
  exact this ⟨k, h⟩
theorem quoteR_cons (n : Nat) (c : UInt8) (q : List UInt8) : quoteR (n + 1) (c :: q) = if c = 34 then some ([], q) else match (if c < 32 ∨ 126 < c then none else if c = 92 then escR q else some (c, q)) with
      | none => none
      | some (d, r') => (quoteR n r').map fun z => (d :: z.1, z.2) := rfl
theorem quoteR_esc : ∀ (s r : List UInt8) (n : Nat), s.length < n → quoteR n (s.flatMap escP ++ 34 :: r) = some (s, r)
  | [], r, 0, h => by simp at h
  | [], r, n + 1, h => rfl
  | c :: s, r, 0, h => by simp at h
  | c :: s, r, n + 1, h => by
    have ih := quoteR_esc s r n (by simp at h; omega)
    rw [List.flatMap_cons, List.append_assoc]
    unfold escP
    split
    · rename_i hc
      show quoteR (n + 1) (92 :: c :: (s.flatMap escP ++ 34 :: r)) = _
      have e : escR (c :: (s.flatMap escP ++ 34 :: r)) = some (c, s.flatMap escP ++ 34 :: r) := by
        show (if c = 34 ∨ c = 92 then _ else _) = _
        rw [if_pos hc]
      rw [quoteR_cons, if_neg (by decide), if_neg (by decide), if_pos rfl, e]
      simp only
      rw [ih]
      rfl
    · rename_i hc
      split
      · rename_i hrange
        show quoteR (n + 1) (92 :: 120 :: hexP (c.toNat / 16) :: hexP (c.toNat % 16) :: (s.flatMap escP ++ 34 :: r)) = _
        have hv : ¬ (32 ≤ 16 * (c.toNat / 16) + c.toNat % 16 ∧ 16 * (c.toNat / 16) + c.toNat % 16 ≤ 126) := by
          rw [UInt8.lt_iff_toNat_lt, UInt8.lt_iff_toNat_lt] at hrange
          have h1 : (32 : UInt8).toNat = 32 := rfl
          have h2 : (126 : UInt8).toNat = 126 := rfl
          omega
        have e : escR (120 :: hexP (c.toNat / 16) :: hexP (c.toNat % 16) :: (s.flatMap escP ++ 34 :: r)) = some (c, s.flatMap escP ++ 34 :: r) := by
          show (match nibD (hexP (c.toNat / 16)), nibD (hexP (c.toNat % 16)) with
            | some x, some y => if 32 ≤ 16 * x + y ∧ 16 * x + y ≤ 126 then none else some (UInt8.ofNat (16 * x + y), s.flatMap escP ++ 34 :: r)
            | _, _ => none) = _
          rw [nib_back _ (by have := c.toNat_lt; omega), nib_back _ (by omega)]
          simp only
          rw [if_neg hv, hex_sum]
        rw [quoteR_cons, if_neg (by decide), if_neg (by decide), if_pos rfl, e]
        simp only
        rw [ih]
        rfl
      · rename_i hrange
        show quoteR (n + 1) (c :: (s.flatMap escP ++ 34 :: r)) = _
        rw [quoteR_cons, if_neg (fun e => hc (.inl e)), if_neg hrange, if_neg (fun e => hc (.inr e))]
        simp only
        rw [ih]
        rfl
end
end Go.Proofs.YtepgpejdnlejnaaDoor
