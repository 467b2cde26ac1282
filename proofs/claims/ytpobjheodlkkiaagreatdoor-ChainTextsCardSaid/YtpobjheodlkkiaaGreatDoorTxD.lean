/- Number, Whole and Cut of the reference. -/
import Derived.Test.YtpobjheodlkkiaaGreatDoorTxC
import Derived.Test.YtpobjheodlkkiaaGreatDoorMap
import Derived.Deep.RegionHeld3
namespace Go.Proofs.YtpobjheodlkkiaaGreatDoor
open Go.RowKit Go.Maps
set_option linter.unusedVariables false
set_option linter.unusedSimpArgs false
set_option linter.unusedSectionVars false
set_option maxRecDepth 100000
attribute [local go_sem] Oper.semAt_some

def byteN (s : ByteArray) (i : Nat) : Int := if h : i < s.size then ((s[i]'h).toNat : Int) else 0
def byteU (s : ByteArray) (i : Nat) : UInt8 := s.data.toList.getD i 0
theorem byteN_in (s : ByteArray) (i : Nat) : 0 ≤ byteN s i ∧ byteN s i ≤ 255 := by
  unfold byteN
  split
  · next h => have := (s[i]'h).toNat_lt; omega
  · omega
theorem str_index (s : ByteArray) (k : Nat) (hk : k < s.size) (w : World) : (Instr.index 9 (.string s) (.int .i64 (k : Int))).run Tryz.prog w = .ok (.int .u8 (byteN s k)) w := by
  rw [run_index_string (P := Tryz.prog) (w := w) 9 s .i64 (k : Int) Tryz.underlying9, dif_pos ⟨by omega, by omega⟩]
  unfold byteN
  rw [dif_pos hk]
  rfl
theorem byteU_N (s : ByteArray) (i : Nat) (h : i < s.size) : byteN s i = ((byteU s i).toNat : Int) := by
  unfold byteN byteU
  rw [dif_pos h]
  have h' : i < s.data.toList.length := by simpa using h
  rw [List.getD_eq_getElem?_getD, List.getElem?_eq_getElem h']
  simp
  rfl
theorem byteU_drop (s : ByteArray) (i : Nat) (h : i < s.size) : s.data.toList.drop i = byteU s i :: s.data.toList.drop (i + 1) := by
  have h' : i < s.data.toList.length := by simpa using h
  rw [List.drop_eq_getElem_cons h', byteU, List.getD_eq_getElem?_getD, List.getElem?_eq_getElem h']
  rfl
/-- one more digit? -/
theorem tw_more : ∀ (l : List UInt8) (k : Nat), k ≤ (l.takeWhile isDg).length → (k < (l.takeWhile isDg).length ↔ ∃ c, l[k]? = some c ∧ isDg c = true)
  | [], k, h => by simp
  | a :: l, k, h => by
    cases ha : isDg a with
    | false =>
      rw [List.takeWhile_cons, ha] at h ⊢
      simp at h
      subst h
      simp [ha]
    | true =>
      rw [List.takeWhile_cons, ha] at h ⊢
      simp only [if_true, List.length_cons] at h ⊢
      cases k with
      | zero => simp [ha]
      | succ k =>
        rw [Nat.add_lt_add_iff_right, tw_more l k (by omega)]
        simp
theorem tw_get : ∀ (l : List UInt8) (k : Nat), k < (l.takeWhile isDg).length → (l.takeWhile isDg)[k]? = l[k]?
  | [], k, h => by simp at h
  | a :: l, k, h => by
    cases ha : isDg a with
    | false => rw [List.takeWhile_cons, ha] at h; simp at h
    | true =>
      rw [List.takeWhile_cons, ha] at h ⊢
      simp only [if_true, List.length_cons] at h ⊢
      cases k with
      | zero => rfl
      | succ k => simpa using tw_get l k (by omega)
theorem dgs_more (t : List UInt8) (k : Nat) (h : k ≤ (dgs t).length) : k < (dgs t).length ↔ k < 17 ∧ ∃ c, t[k]? = some c ∧ isDg c = true := by
  unfold dgs at h ⊢
  rw [tw_more _ _ h]
  constructor
  · rintro ⟨c, h1, h2⟩
    rw [List.getElem?_take] at h1
    split at h1
    · next hk => exact ⟨hk, c, h1, h2⟩
    · cases h1
  · rintro ⟨hk, c, h1, h2⟩
    exact ⟨c, by rw [List.getElem?_take, if_pos hk]; exact h1, h2⟩
theorem dgs_get (t : List UInt8) (k : Nat) (h : k < (dgs t).length) : (dgs t)[k]? = t[k]? := by
  have := ((dgs_more t k (Nat.le_of_lt h)).1 h).1
  unfold dgs at h ⊢
  rw [tw_get _ _ h, List.getElem?_take, if_pos this]
theorem dgs_le (t : List UInt8) : (dgs t).length ≤ 17 := by
  unfold dgs
  exact Nat.le_trans (List.takeWhile_sublist _).length_le (by rw [List.length_take]; omega)
theorem dgs_mem (t : List UInt8) : ∀ c ∈ dgs t, isDg c = true := fun c hc => by
  unfold dgs at hc
  exact List.all_eq_true.1 List.all_takeWhile c hc
theorem dig_step (acc d : Nat) (h : d ≤ 9) : acc * 10 + d + 1 ≤ (acc + 1) * 10 := by omega
theorem dg_sub {c : UInt8} (h : isDg c = true) : c.toNat - 48 ≤ 9 := by
  simp only [isDg, Bool.and_eq_true, decide_eq_true_eq] at h
  omega
theorem spell_lt1 (c : UInt8) (l : List UInt8) (acc : Nat) (hc : c.toNat - 48 ≤ 9) (ih : spell (acc * 10 + (c.toNat - 48)) l < (acc * 10 + (c.toNat - 48) + 1) * 10 ^ l.length) : spell (acc * 10 + (c.toNat - 48)) l < (acc + 1) * 10 ^ (l.length + 1) := by
  rw [Nat.pow_succ, Nat.mul_comm (10 ^ l.length) 10, ← Nat.mul_assoc]
  exact Nat.lt_of_lt_of_le ih (Nat.mul_le_mul_right _ (dig_step acc _ hc))
theorem spell_lt2 (c : UInt8) (l : List UInt8) (acc v : Nat)  (ih : spell (acc * 10 + (c.toNat - 48)) l < v) : spell acc (c :: l) < v := by
  unfold spell
  exact ih
theorem spell_lt : ∀ (l : List UInt8) (acc : Nat), (∀ c ∈ l, isDg c = true) → spell acc l < (acc + 1) * 10 ^ l.length
  | [], acc, _ => Nat.lt_of_lt_of_le (Nat.lt_succ_self acc) (Nat.le_of_eq (Nat.mul_one _).symm)
  | c :: l, acc, h => spell_lt2 c l acc _ (spell_lt1 c l acc (dg_sub (h c (List.mem_cons_self ..))) (spell_lt l _ (fun x hx => h x (List.mem_cons_of_mem _ hx))))
/-- the number that the first k digits at m spell -/
def spK (s : ByteArray) (m q : Nat) : Nat := spell 0 ((dgs (s.data.toList.drop m)).take (q - m))
def dgL (s : ByteArray) (m : Nat) : Nat := (dgs (s.data.toList.drop m)).length
theorem spK_lt (s : ByteArray) (m q : Nat) : spK s m q < 100000000000000000 := by
  have h1 := spell_lt ((dgs (s.data.toList.drop m)).take (q - m)) 0 (fun c hc => dgs_mem _ c (List.mem_of_mem_take hc))
  have h2 := dgs_le (s.data.toList.drop m)
  have h3 : ((dgs (s.data.toList.drop m)).take (q - m)).length ≤ 17 := by rw [List.length_take]; omega
  have h4 : 10 ^ ((dgs (s.data.toList.drop m)).take (q - m)).length ≤ 10 ^ 17 := Nat.pow_le_pow_right (by decide) h3
  unfold spK
  omega
theorem spK_lt16 (s : ByteArray) (m q : Nat) (h : q - m < 17) : spK s m q < 10000000000000000 := by
  have h1 := spell_lt ((dgs (s.data.toList.drop m)).take (q - m)) 0 (fun c hc => dgs_mem _ c (List.mem_of_mem_take hc))
  have h3 : ((dgs (s.data.toList.drop m)).take (q - m)).length ≤ 16 := by rw [List.length_take]; omega
  have h4 : 10 ^ ((dgs (s.data.toList.drop m)).take (q - m)).length ≤ 10 ^ 16 := Nat.pow_le_pow_right (by decide) h3
  unfold spK
  omega
theorem dg_at (s : ByteArray) (m q : Nat) (h1 : m ≤ q) (h2 : q ≤ m + dgL s m) : q < m + dgL s m ↔ q - m < 17 ∧ q < s.size ∧ 48 ≤ byteN s q ∧ byteN s q ≤ 57 := by
  have h := dgs_more (s.data.toList.drop m) (q - m) (by unfold dgL at h2; omega)
  have e : (s.data.toList.drop m)[q - m]? = s.data.toList[q]? := by rw [List.getElem?_drop]; congr 1; omega
  rw [e] at h
  have h0 : q < m + dgL s m ↔ q - m < (dgs (s.data.toList.drop m)).length := by unfold dgL; omega
  rw [h0, h]
  constructor
  · rintro ⟨a, c, hc, hd⟩
    have hq : q < s.size := by
      have := (List.getElem?_eq_some_iff.1 hc).1
      simpa using this
    have hu : byteU s q = c := by unfold byteU; rw [List.getD_eq_getElem?_getD, hc]; rfl
    simp only [isDg, Bool.and_eq_true, decide_eq_true_eq] at hd
    rw [byteU_N s q hq, hu]
    exact ⟨a, hq, by omega, by omega⟩
  · rintro ⟨a, hq, h48, h57⟩
    have hl : q < s.data.toList.length := by simpa using hq
    refine ⟨a, byteU s q, ?_, ?_⟩
    · unfold byteU; rw [List.getD_eq_getElem?_getD, List.getElem?_eq_getElem hl]; rfl
    · rw [byteU_N s q hq] at h48 h57
      simp only [isDg, Bool.and_eq_true, decide_eq_true_eq]
      omega
theorem spK_next (s : ByteArray) (m q : Nat) (h1 : m ≤ q) (h2 : q < m + dgL s m) : spK s m (q + 1) = 10 * spK s m q + (byteU s q).toNat - 48 ∧ 48 ≤ (byteU s q).toNat := by
  have h3 := (dg_at s m q h1 (by omega)).1 h2
  have hl : q < s.data.toList.length := by simpa using h3.2.1
  have hg : (dgs (s.data.toList.drop m))[q - m]? = some (byteU s q) := by
    rw [dgs_get _ _ (by unfold dgL at h2; omega), List.getElem?_drop, show m + (q - m) = q by omega, byteU, List.getD_eq_getElem?_getD, List.getElem?_eq_getElem hl]
    rfl
  have h48 : 48 ≤ (byteU s q).toNat := by have := h3.2.2.1; rw [byteU_N s q h3.2.1] at this; omega
  refine ⟨?_, h48⟩
  unfold spK
  rw [show q + 1 - m = (q - m) + 1 by omega, List.take_add_one, hg, spell_app]
  show spell 0 _ * 10 + ((byteU s q).toNat - 48) = _
  omega
theorem spK_zero (s : ByteArray) (m : Nat) : spK s m m = 0 := by unfold spK; rw [Nat.sub_self]; rfl
theorem magF_at (s : ByteArray) (m : Nat) (minus : Bool) :
    magF minus (s.data.toList.drop m) = if dgL s m = 0 ∨ (1 < dgL s m ∧ byteN s m = 48) ∨ (minus = true ∧ spK s m (m + dgL s m) = 0) ∨ 17 ≤ dgL s m then (0, 0)
      else (if minus then -(spK s m (m + dgL s m) : Int) else spK s m (m + dgL s m), (dgL s m : Int) + (if minus then 1 else 0)) := by
  have e1 : spK s m (m + dgL s m) = spell 0 (dgs (s.data.toList.drop m)) := by
    unfold spK dgL
    rw [Nat.add_sub_cancel_left, List.take_length]
  have e2 : dgs (s.data.toList.drop m) = [] ↔ dgL s m = 0 := by unfold dgL; exact List.length_eq_zero_iff.symm
  have e3 : 1 < dgL s m → ((s.data.toList.drop m).head? = some 48 ↔ byteN s m = 48) := fun h => by
    have hm := ((dg_at s m m (Nat.le_refl _) (by omega)).1 (by omega)).2.1
    rw [byteU_drop s m hm, List.head?_cons, byteU_N s m hm]
    constructor
    · intro e; injection e with e; rw [e]; decide
    · intro e
      congr 1
      apply UInt8.toNat_inj.1
      show _ = 48
      omega
  unfold magF
  rw [e1]
  have e4 : (1 < (dgs (s.data.toList.drop m)).length ∧ (s.data.toList.drop m).head? = some 48) ↔ (1 < dgL s m ∧ byteN s m = 48) := and_congr_right e3
  have e5 := or_congr e2 (or_congr e4 (Iff.refl (minus = true ∧ spell 0 (dgs (s.data.toList.drop m)) = 0 ∨ 17 ≤ (dgs (s.data.toList.drop m)).length)))
  by_cases hc : dgL s m = 0 ∨ (1 < dgL s m ∧ byteN s m = 48) ∨ (minus = true ∧ spell 0 (dgs (s.data.toList.drop m)) = 0) ∨ 17 ≤ dgL s m
  · rw [if_pos hc, if_pos (e5.2 hc)]
  · rw [if_neg hc, if_neg (fun h => hc (e5.1 h))]
    rfl
end Go.Proofs.YtpobjheodlkkiaaGreatDoor
