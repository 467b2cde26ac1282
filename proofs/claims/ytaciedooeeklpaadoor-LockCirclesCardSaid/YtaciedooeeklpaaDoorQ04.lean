/- TxD; TxS; TxF; LkI; LkJ; LkK (merged by group.py) -/
import Derived.Test.YtaciedooeeklpaaDoorQ03
import Derived.Deep.RegionHeld3
import Derived.Deep.LoopGhost
namespace Go.Proofs.YtaciedooeeklpaaDoor
section
open Go.RowKit Go.Maps
set_option linter.unusedVariables false
set_option maxRecDepth 20000
set_option linter.unusedSimpArgs false
set_option linter.unusedSectionVars false
set_option maxRecDepth 100000
attribute [local go_sem] Oper.semAt_some

def byteN (s : ByteArray) (i : Nat) : Int := if h : i < s.size then ((s[i]'h).toNat : Int) else 0
def byteU (s : ByteArray) (i : Nat) : UInt8 := s.data.toList.getD i 0
theorem byteN_in (s : ByteArray) (i : Nat) : 0 ≤ byteN s i ∧ byteN s i ≤ 255 := by
  unfold byteN
  split
  · next h => have := (s[i]'h).toNat_lt; omega
  · omega
theorem str_index (s : ByteArray) (k : Nat) (hk : k < s.size) (w : World) : (Instr.index 9 (.string s) (.int .i64 (k : Int))).run Tryd.prog w = .ok (.int .u8 (byteN s k)) w := by
  rw [run_index_string (P := Tryd.prog) (w := w) 9 s .i64 (k : Int) Tryd.underlying9, dif_pos ⟨by omega, by omega⟩]
  unfold byteN
  rw [dif_pos hk]
  rfl
theorem byteU_N (s : ByteArray) (i : Nat) (h : i < s.size) : byteN s i = ((byteU s i).toNat : Int) := by
  unfold byteN byteU
  rw [dif_pos h]
  have h' : i < s.data.toList.length := by simpa using h
  rw [List.getD_eq_getElem?_getD, List.getElem?_eq_getElem h']
  simp
  rfl
theorem byteU_drop (s : ByteArray) (i : Nat) (h : i < s.size) : s.data.toList.drop i = byteU s i :: s.data.toList.drop (i + 1) := by
  have h' : i < s.data.toList.length := by simpa using h
  rw [List.drop_eq_getElem_cons h', byteU, List.getD_eq_getElem?_getD, List.getElem?_eq_getElem h']
  rfl
/-- one more digit? -/
theorem tw_more : ∀ (l : List UInt8) (k : Nat), k ≤ (l.takeWhile isDg).length → (k < (l.takeWhile isDg).length ↔ ∃ c, l[k]? = some c ∧ isDg c = true)
  | [], k, h => by simp
  | a :: l, k, h => by
    cases ha : isDg a with
    | false =>
      rw [List.takeWhile_cons, ha] at h ⊢
      simp at h
      subst h
      simp [ha]
    | true =>
      rw [List.takeWhile_cons, ha] at h ⊢
      simp only [if_true, List.length_cons] at h ⊢
      cases k with
      | zero => simp [ha]
      | succ k =>
        rw [Nat.add_lt_add_iff_right, tw_more l k (by omega)]
        simp
theorem tw_get : ∀ (l : List UInt8) (k : Nat), k < (l.takeWhile isDg).length → (l.takeWhile isDg)[k]? = l[k]?
  | [], k, h => by simp at h
  | a :: l, k, h => by
    cases ha : isDg a with
    | false => rw [List.takeWhile_cons, ha] at h; simp at h
    | true =>
      rw [List.takeWhile_cons, ha] at h ⊢
      simp only [if_true, List.length_cons] at h ⊢
      cases k with
      | zero => rfl
      | succ k => simpa using tw_get l k (by omega)
theorem dgs_more (t : List UInt8) (k : Nat) (h : k ≤ (dgs t).length) : k < (dgs t).length ↔ k < 17 ∧ ∃ c, t[k]? = some c ∧ isDg c = true := by
  unfold dgs at h ⊢
  rw [tw_more _ _ h]
  constructor
  · rintro ⟨c, h1, h2⟩
    rw [List.getElem?_take] at h1
    split at h1
    · next hk => exact ⟨hk, c, h1, h2⟩
    · cases h1
  · rintro ⟨hk, c, h1, h2⟩
    exact ⟨c, by rw [List.getElem?_take, if_pos hk]; exact h1, h2⟩
theorem dgs_get (t : List UInt8) (k : Nat) (h : k < (dgs t).length) : (dgs t)[k]? = t[k]? := by
  have := ((dgs_more t k (Nat.le_of_lt h)).1 h).1
  unfold dgs at h ⊢
  rw [tw_get _ _ h, List.getElem?_take, if_pos this]
theorem dgs_le (t : List UInt8) : (dgs t).length ≤ 17 := by
  unfold dgs
  exact Nat.le_trans (List.takeWhile_sublist _).length_le (by rw [List.length_take]; omega)
theorem dgs_mem (t : List UInt8) : ∀ c ∈ dgs t, isDg c = true := fun c hc => by
  unfold dgs at hc
  exact List.all_eq_true.1 List.all_takeWhile c hc
theorem dig_step (acc d : Nat) (h : d ≤ 9) : acc * 10 + d + 1 ≤ (acc + 1) * 10 := by omega
theorem dg_sub {c : UInt8} (h : isDg c = true) : c.toNat - 48 ≤ 9 := by
  simp only [isDg, Bool.and_eq_true, decide_eq_true_eq] at h
  omega
theorem spell_lt1 (c : UInt8) (l : List UInt8) (acc : Nat) (hc : c.toNat - 48 ≤ 9) (ih : spell (acc * 10 + (c.toNat - 48)) l < (acc * 10 + (c.toNat - 48) + 1) * 10 ^ l.length) : spell (acc * 10 + (c.toNat - 48)) l < (acc + 1) * 10 ^ (l.length + 1) := by
  rw [Nat.pow_succ, Nat.mul_comm (10 ^ l.length) 10, ← Nat.mul_assoc]
  exact Nat.lt_of_lt_of_le ih (Nat.mul_le_mul_right _ (dig_step acc _ hc))
theorem spell_lt2 (c : UInt8) (l : List UInt8) (acc v : Nat)  (ih : spell (acc * 10 + (c.toNat - 48)) l < v) : spell acc (c :: l) < v := by
  unfold spell
  exact ih
theorem spell_lt : ∀ (l : List UInt8) (acc : Nat), (∀ c ∈ l, isDg c = true) → spell acc l < (acc + 1) * 10 ^ l.length
  | [], acc, _ => Nat.lt_of_lt_of_le (Nat.lt_succ_self acc) (Nat.le_of_eq (Nat.mul_one _).symm)
  | c :: l, acc, h => spell_lt2 c l acc _ (spell_lt1 c l acc (dg_sub (h c (List.mem_cons_self ..))) (spell_lt l _ (fun x hx => h x (List.mem_cons_of_mem _ hx))))
/-- the number that the first k digits at m spell -/
def spK (s : ByteArray) (m q : Nat) : Nat := spell 0 ((dgs (s.data.toList.drop m)).take (q - m))
def dgL (s : ByteArray) (m : Nat) : Nat := (dgs (s.data.toList.drop m)).length
theorem spK_lt (s : ByteArray) (m q : Nat) : spK s m q < 100000000000000000 := by
  have h1 := spell_lt ((dgs (s.data.toList.drop m)).take (q - m)) 0 (fun c hc => dgs_mem _ c (List.mem_of_mem_take hc))
  have h2 := dgs_le (s.data.toList.drop m)
  have h3 : ((dgs (s.data.toList.drop m)).take (q - m)).length ≤ 17 := by rw [List.length_take]; omega
  have h4 : 10 ^ ((dgs (s.data.toList.drop m)).take (q - m)).length ≤ 10 ^ 17 := Nat.pow_le_pow_right (by decide) h3
  unfold spK
  omega
theorem spK_lt16 (s : ByteArray) (m q : Nat) (h : q - m < 17) : spK s m q < 10000000000000000 := by
  have h1 := spell_lt ((dgs (s.data.toList.drop m)).take (q - m)) 0 (fun c hc => dgs_mem _ c (List.mem_of_mem_take hc))
  have h3 : ((dgs (s.data.toList.drop m)).take (q - m)).length ≤ 16 := by rw [List.length_take]; omega
  have h4 : 10 ^ ((dgs (s.data.toList.drop m)).take (q - m)).length ≤ 10 ^ 16 := Nat.pow_le_pow_right (by decide) h3
  unfold spK
  omega
theorem dg_at (s : ByteArray) (m q : Nat) (h1 : m ≤ q) (h2 : q ≤ m + dgL s m) : q < m + dgL s m ↔ q - m < 17 ∧ q < s.size ∧ 48 ≤ byteN s q ∧ byteN s q ≤ 57 := by
  have h := dgs_more (s.data.toList.drop m) (q - m) (by unfold dgL at h2; omega)
  have e : (s.data.toList.drop m)[q - m]? = s.data.toList[q]? := by rw [List.getElem?_drop]; congr 1; omega
  rw [e] at h
  have h0 : q < m + dgL s m ↔ q - m < (dgs (s.data.toList.drop m)).length := by unfold dgL; omega
  rw [h0, h]
  constructor
  · rintro ⟨a, c, hc, hd⟩
    have hq : q < s.size := by
      have := (List.getElem?_eq_some_iff.1 hc).1
      simpa using this
    have hu : byteU s q = c := by unfold byteU; rw [List.getD_eq_getElem?_getD, hc]; rfl
    simp only [isDg, Bool.and_eq_true, decide_eq_true_eq] at hd
    rw [byteU_N s q hq, hu]
    exact ⟨a, hq, by omega, by omega⟩
  · rintro ⟨a, hq, h48, h57⟩
    have hl : q < s.data.toList.length := by simpa using hq
    refine ⟨a, byteU s q, ?_, ?_⟩
    · unfold byteU; rw [List.getD_eq_getElem?_getD, List.getElem?_eq_getElem hl]; rfl
    · rw [byteU_N s q hq] at h48 h57
      simp only [isDg, Bool.and_eq_true, decide_eq_true_eq]
      omega
theorem spK_next (s : ByteArray) (m q : Nat) (h1 : m ≤ q) (h2 : q < m + dgL s m) : spK s m (q + 1) = 10 * spK s m q + (byteU s q).toNat - 48 ∧ 48 ≤ (byteU s q).toNat := by
  have h3 := (dg_at s m q h1 (by omega)).1 h2
  have hl : q < s.data.toList.length := by simpa using h3.2.1
  have hg : (dgs (s.data.toList.drop m))[q - m]? = some (byteU s q) := by
    rw [dgs_get _ _ (by unfold dgL at h2; omega), List.getElem?_drop, show m + (q - m) = q by omega, byteU, List.getD_eq_getElem?_getD, List.getElem?_eq_getElem hl]
    rfl
  have h48 : 48 ≤ (byteU s q).toNat := by have := h3.2.2.1; rw [byteU_N s q h3.2.1] at this; omega
  refine ⟨?_, h48⟩
  unfold spK
  rw [show q + 1 - m = (q - m) + 1 by omega, List.take_add_one, hg, spell_app]
  show spell 0 _ * 10 + ((byteU s q).toNat - 48) = _
  omega
theorem spK_zero (s : ByteArray) (m : Nat) : spK s m m = 0 := by unfold spK; rw [Nat.sub_self]; rfl
theorem magF_at (s : ByteArray) (m : Nat) (minus : Bool) :
    magF minus (s.data.toList.drop m) = if dgL s m = 0 ∨ (1 < dgL s m ∧ byteN s m = 48) ∨ (minus = true ∧ spK s m (m + dgL s m) = 0) ∨ 17 ≤ dgL s m then (0, 0)
      else (if minus then -(spK s m (m + dgL s m) : Int) else spK s m (m + dgL s m), (dgL s m : Int) + (if minus then 1 else 0)) := by
  have e1 : spK s m (m + dgL s m) = spell 0 (dgs (s.data.toList.drop m)) := by
    unfold spK dgL
    rw [Nat.add_sub_cancel_left, List.take_length]
  have e2 : dgs (s.data.toList.drop m) = [] ↔ dgL s m = 0 := by unfold dgL; exact List.length_eq_zero_iff.symm
  have e3 : 1 < dgL s m → ((s.data.toList.drop m).head? = some 48 ↔ byteN s m = 48) := fun h => by
    have hm := ((dg_at s m m (Nat.le_refl _) (by omega)).1 (by omega)).2.1
    rw [byteU_drop s m hm, List.head?_cons, byteU_N s m hm]
    constructor
    · intro e; injection e with e; rw [e]; decide
    · intro e
      congr 1
      apply UInt8.toNat_inj.1
      show _ = 48
      omega
  unfold magF
  rw [e1]
  have e4 : (1 < (dgs (s.data.toList.drop m)).length ∧ (s.data.toList.drop m).head? = some 48) ↔ (1 < dgL s m ∧ byteN s m = 48) := and_congr_right e3
  have e5 := or_congr e2 (or_congr e4 (Iff.refl (minus = true ∧ spell 0 (dgs (s.data.toList.drop m)) = 0 ∨ 17 ≤ (dgs (s.data.toList.drop m)).length)))
  by_cases hc : dgL s m = 0 ∨ (1 < dgL s m ∧ byteN s m = 48) ∨ (minus = true ∧ spell 0 (dgs (s.data.toList.drop m)) = 0) ∨ 17 ≤ dgL s m
  · rw [if_pos hc, if_pos (e5.2 hc)]
  · rw [if_neg hc, if_neg (fun h => hc (e5.1 h))]
    rfl
end
section
open Go.RowKit
set_option linter.unusedVariables false
set_option maxRecDepth 20000
set_option linter.unusedSimpArgs false
set_option linter.unusedSectionVars false
set_option maxRecDepth 20000
abbrev csS (x : ByteArray) : List Value := [.string x]
theorem elemS : ElemG csS 47 9 1 16 where
  ht := Tryd.underlying47
  info := by
    have h : (Tryd.prog.info? 9).map (fun i => (i.zero, i.size, i.bytes)) = some (some (.string ⟨#[]⟩), 1, 16) := by kernel_rfl
    cases hq : Tryd.prog.info? 9 with
    | none => simp [hq] at h
    | some i => simp [hq] at h; exact ⟨i, _, rfl, h.1, h.2.1, h.2.2, rfl⟩
  k0 := by omega
  hk := fun _ => rfl
  one := fun x u hu => by
    simp at hu
    subst hu; rfl
abbrev SlS := @SlG ByteArray csS
abbrev OwnS (w : World) (base : Nat) (v : Value) (l : List ByteArray) : Prop := OwnG csS 9 1 w base v l
def mkB (l : List UInt8) : ByteArray := ⟨l.toArray⟩
theorem mkB_toList (l : List UInt8) : (mkB l).data.toList = l := rfl
theorem mkB_of (s : ByteArray) : mkB s.data.toList = s := rfl
theorem mkB_size (l : List UInt8) : (mkB l).size = l.length := by show l.toArray.size = _; simp
theorem mkB_inj {a b : List UInt8} (h : mkB a = mkB b) : a = b := by have := congrArg (fun x : ByteArray => x.data.toList) h; exact this
/-- a text cut at each byte c -/
def cutB (c : UInt8) (s : ByteArray) : List ByteArray := (cutC c s.data.toList).map mkB
theorem cutB_size (c : UInt8) (s : ByteArray) : (cutB c s).length ≤ s.size + 1 := by
  unfold cutB
  rw [List.length_map]
  have := cutC_len c s.data.toList
  have h : s.data.toList.length = s.size := by simp
  omega
theorem cutB_pos (c : UInt8) (s : ByteArray) : 1 ≤ (cutB c s).length := by
  unfold cutB
  rw [List.length_map]
  cases h : cutC c s.data.toList with
  | nil => exact absurd h (cutC_ne _ _)
  | cons a l => simp
theorem splitB_cut (c : UInt8) (s : ByteArray) : Lib.splitB ⟨#[c]⟩ 0 (Lib.countB s ⟨#[c]⟩) s = cutB c s := by
  have h1 := Lib.splitB_data ⟨#[c]⟩ 0 (Lib.countB s ⟨#[c]⟩) s
  have h2 := split_cut c s.data.toList.length s.data.toList (Nat.le_refl _)
  have h3 : (Lib.splitB ⟨#[c]⟩ 0 (Lib.countB s ⟨#[c]⟩) s).map (·.data.toList) = cutC c s.data.toList := h1.trans h2
  unfold cutB
  rw [← h3, List.map_map]
  symm
  exact List.map_id'' (fun x => rfl) _
theorem countB_cut (c : UInt8) (s : ByteArray) : Lib.countB s ⟨#[c]⟩ + 1 = (cutB c s).length := by
  unfold cutB
  rw [List.length_map]
  exact count_cut c s.data.toList
theorem extract_mk (s : ByteArray) (a b : Nat) : s.extract a b = mkB ((s.data.toList.take b).drop a) := by
  apply ByteArray.ext
  rw [ByteArray.data_extract]
  apply Array.ext'
  show _ = (s.data.toList.take b).drop a
  rw [Array.toList_extract, List.extract_eq_take_drop, List.drop_take]
theorem str_one (s : ByteArray) (k : Nat) (hk : k < s.size) (w : World) : (Instr.slice 9 (.string s) (some (.int .i64 (k : Int))) (some (.int .i64 ((k : Int) + 1))) none).run Tryd.prog w = .ok (.string ⟨#[byteU s k]⟩) w := by
  rw [run_slice_string (P := Tryd.prog) w 9 s .i64 .i64 (k : Int) ((k : Int) + 1) Tryd.underlying9 (by omega) (by omega) (by omega)]
  rw [show ((k : Int)).toNat = k from rfl, show ((k : Int) + 1).toNat = k + 1 from by omega, extract_mk]
  have h' : k < s.data.toList.length := by simpa using hk
  have : (s.data.toList.take (k + 1)).drop k = [byteU s k] := by
    rw [List.drop_take, Nat.add_sub_cancel_left, byteU_drop s k hk]
    rfl
  rw [this]
  rfl
theorem str_mid (s : ByteArray) (a b : Nat) (h1 : a ≤ b) (h2 : b ≤ s.size) (w : World) : (Instr.slice 9 (.string s) (some (.int .i64 (a : Int))) (some (.int .i64 (b : Int))) none).run Tryd.prog w = .ok (.string (mkB ((s.data.toList.take b).drop a))) w := by
  rw [run_slice_string (P := Tryd.prog) w 9 s .i64 .i64 (a : Int) (b : Int) Tryd.underlying9 (by omega) (by omega) (by omega)]
  rw [show ((a : Int)).toNat = a from rfl, show ((b : Int)).toNat = b from rfl, extract_mk]
theorem str_from (s : ByteArray) (a : Nat) (h2 : a ≤ s.size) (w : World) : (Instr.slice 9 (.string s) (some (.int .i64 (a : Int))) none none).run Tryd.prog w = .ok (.string (mkB (s.data.toList.drop a))) w := by
  rw [run_slice_string_l (P := Tryd.prog) w 9 s Tryd.underlying9 .i64 (a : Int) (by omega) (by omega)]
  rw [show ((a : Int)).toNat = a from rfl, extract_mk, List.take_of_length_le (by simp)]
theorem str_to (s : ByteArray) (b : Nat) (h2 : b ≤ s.size) (w : World) : (Instr.slice 9 (.string s) none (some (.int .i64 (b : Int))) none).run Tryd.prog w = .ok (.string (mkB (s.data.toList.take b))) w := by
  rw [run_slice_string_h (P := Tryd.prog) w 9 s Tryd.underlying9 .i64 (b : Int) (by omega) (by omega)]
  rw [show ((b : Int)).toNat = b from rfl, extract_mk, List.drop_zero]
theorem one_ne {a c : UInt8} (h : a ≠ c) : ((⟨#[a]⟩ : ByteArray).toList == (⟨#[c]⟩ : ByteArray).toList) = false := by
  rw [Lib.toList_data, Lib.toList_data]
  simpa using h
end
section
open Go.RowKit Go.Maps
set_option linter.unusedVariables false
set_option maxRecDepth 20000
set_option linter.unusedSimpArgs false
set_option linter.unusedSectionVars false
set_option maxRecDepth 20000
attribute [local go_sem] Oper.semAt_some

/-- where the cutting stands: the pieces before from are cut, no c from there up to i -/
structure CutRel (c : UInt8) (s : ByteArray) (i f : Nat) (out : List ByteArray) : Prop where
  le : f ≤ i
  size : i ≤ s.size
  no : c ∉ (s.data.toList.take i).drop f
  out : cutB c s = out ++ (cutC c (s.data.toList.drop f)).map mkB
theorem CutRel.start (c : UInt8) (s : ByteArray) : CutRel c s 0 0 [] := ⟨Nat.le_refl _, Nat.zero_le _, by simp, by simp [cutB]⟩
theorem piece_snoc (s : ByteArray) (i f : Nat) (h1 : f ≤ i) (h2 : i < s.size) : (s.data.toList.take (i + 1)).drop f = (s.data.toList.take i).drop f ++ [byteU s i] := by
  have hl : i < s.data.toList.length := by simpa using h2
  rw [List.take_add_one, List.drop_append_of_le_length (by rw [List.length_take]; omega), byteU, List.getD_eq_getElem?_getD, List.getElem?_eq_getElem hl]
  rfl
theorem drop_split (s : ByteArray) (i f : Nat) (h1 : f ≤ i) (h2 : i < s.size) : s.data.toList.drop f = (s.data.toList.take i).drop f ++ byteU s i :: s.data.toList.drop (i + 1) := by
  rw [← byteU_drop s i h2]
  have hl : i ≤ s.data.toList.length := by have : s.data.toList.length = s.size := by simp
                                           omega
  conv => lhs; rw [← List.take_append_drop i s.data.toList]
  rw [List.drop_append_of_le_length (by rw [List.length_take]; omega)]
theorem CutRel.miss {c : UInt8} {s : ByteArray} {i f : Nat} {out : List ByteArray} (h : CutRel c s i f out) (hi : i < s.size) (hc : byteU s i ≠ c) : CutRel c s (i + 1) f out :=
  ⟨by have := h.le; omega, hi, by rw [piece_snoc s i f h.le hi, List.mem_append]; rintro (h1 | h1); exact h.no h1; simp at h1; exact hc h1.symm, h.out⟩
theorem CutRel.hit {c : UInt8} {s : ByteArray} {i f : Nat} {out : List ByteArray} (h : CutRel c s i f out) (hi : i < s.size) (hc : byteU s i = c) : CutRel c s (i + 1) (i + 1) (out ++ [mkB ((s.data.toList.take i).drop f)]) :=
  ⟨Nat.le_refl _, hi, by simp, by
    rw [h.out, drop_split s i f h.le hi, hc, cutC_app c _ _ h.no, List.append_assoc]
    rfl⟩
theorem CutRel.done {c : UInt8} {s : ByteArray} {i f : Nat} {out : List ByteArray} (h : CutRel c s i f out) (hi : i = s.size) : cutB c s = out ++ [mkB (s.data.toList.drop f)] := by
  have e : (s.data.toList.take i).drop f = s.data.toList.drop f := by rw [List.take_of_length_le (by simp [hi])]
  have := h.no
  rw [e] at this
  rw [h.out, cutC_none c _ this]
  rfl
theorem CutRel.len {c : UInt8} {s : ByteArray} {i f : Nat} {out : List ByteArray} (h : CutRel c s i f out) : out.length ≤ s.size := by
  have h1 := cutB_size c s
  rw [h.out, List.length_append, List.length_map] at h1
  have : 1 ≤ (cutC c (s.data.toList.drop f)).length := by
    cases hh : cutC c (s.data.toList.drop f) with
    | nil => exact absurd hh (cutC_ne _ _)
    | cons a l => simp
  omega
def CutR (c : UInt8) (s : ByteArray) (w : World) (v f i : Value) (wr : World) : Prop :=
  ∃ (k q : Nat) (out : List ByteArray), i = .int .i64 k ∧ f = .int .i64 q ∧ OwnS wr w.heap.size v out ∧ CutRel c s k q out ∧ Ext w wr
set_option maxHeartbeats 4000000 in
theorem rcut_any (s : ByteArray) (c : UInt8) (hs : s.size ≤ 1000000) (w : World) :
    Calls Tryd.prog 21 #[.string s, .string ⟨#[c]⟩] w fun e w' => ∃ v, e = .returned v ∧ OwnS w' w.heap.size v (cutB c s) ∧ Ext w w' := by
  go_enter Tryd.func21, Tryd.ntmps21
  go_wp2
  go_loopw [5, 6, 7] (fun v f i wr => CutR c s w v f i wr) (fun _ _ i _ => s.size - (intOf i).toNat)
  case atStart => exact ⟨0, 0, [], rfl, rfl, OwnG.nil _ _ _ _ _, CutRel.start c s, Ext.refl w⟩
  case round =>
    obtain ⟨k, q, out, rfl, rfl, hown, hrel, hx⟩ := hrel
    have d1 : IntKind.i64.wrap ((k : Int) + 1) = (k : Int) + 1 := IntWalk.i64_in _ ⟨by have := hrel.size; omega, by have := hrel.size; omega⟩
    by_cases hlt : k < s.size
    · have c1 : (k : Int) + 1 ≤ s.size := by omega
      have hsl := fun w => str_one s k hlt w
      obtain ⟨Y, hY⟩ : ∃ Y, (⟨#[c]⟩ : ByteArray) = Y := ⟨_, rfl⟩
      have y1 : Y.size = 1 := by rw [← hY]; rfl
      by_cases hc : byteU s k = c
      · have HN := Lib.hid (hrel.hit hlt hc)
        have hln := hrel.len
        have hm := fun w => str_mid s q k hrel.le hrel.size w
        rw [hc, hY] at hsl
        rw [hY]
        clear hrel hc hY
        generalize mkB ((s.data.toList.take k).drop q) = X at *
        have HO := Lib.hid hown
        clear hown
        go_wp2_with (at_builtin; refine wpList_app_G _ elemS rfl _ _ rfl (base := w.heap.size) rfl (HO.out.ext ((Ext.refl _).alloc _)) (m := [X]) rfl (SlG.one elemS.hk _ ?c1 ?c2) ?c3 ?c4 ?c5 ?c6 ?_)
        case c1 => rfl
        all_goals first
          | (intro e; cases e; done)
          | (have := hln; have := hx.size; omega; done)
          | (have := hln; have := hx.size; simp; omega; done)
          | skip
        intro v' w3 hown' hbl
        have hx3 : Ext w w3 := below_ext (hx.alloc _) hbl (Nat.le_refl _)
        go_wp2
        go_roundw
        case rel => exact ⟨k + 1, k + 1, out ++ [X], by go_num, by go_num, hown', HN.out, hx3⟩
        case measure => simp [intOf, d1]; omega
      · have HN := Lib.hid (hrel.miss hlt hc)
        have hne := one_ne hc
        rw [hY] at hne
        rw [hY]
        generalize (⟨#[byteU s k]⟩ : ByteArray) = X at *
        clear hrel hc hY
        go_wp2
        go_roundw
        case rel => exact ⟨k + 1, q, out, by go_num, rfl, hown, HN.out, hx⟩
        case measure => simp [intOf, d1]; omega
    · obtain rfl : k = s.size := by have := hrel.size; omega
      have c1 : ¬ (s.size : Int) + 1 ≤ s.size := by omega
      have HN := Lib.hid (hrel.done rfl)
      have hln := hrel.len
      have hm := fun w => str_from s q (Nat.le_trans hrel.le hrel.size) w
      obtain ⟨Y, hY⟩ : ∃ Y, (⟨#[c]⟩ : ByteArray) = Y := ⟨_, rfl⟩
      have y1 : Y.size = 1 := by rw [← hY]; rfl
      rw [hY]
      clear hrel hY
      generalize mkB (s.data.toList.drop q) = X at *
      have HO := Lib.hid hown
      clear hown
      go_wp2_with (at_builtin; refine wpList_app_G _ elemS rfl _ _ rfl (base := w.heap.size) rfl (HO.out.ext ((Ext.refl _).alloc _)) (m := [X]) rfl (SlG.one elemS.hk _ ?k1 ?k2) ?k3 ?k4 ?k5 ?k6 ?_)
      case k1 => rfl
      all_goals first
        | (intro e; cases e; done)
        | (have := hln; have := hx.size; omega; done)
        | (have := hln; have := hx.size; simp; omega; done)
        | skip
      intro v' w3 hown' hbl
      have hx3 : Ext w w3 := below_ext (hx.alloc _) hbl (Nat.le_refl _)
      go_wp2
      go_ret
      exact ⟨v', rfl, by rw [HN.out]; exact hown', hx3⟩
end
section
open Go.RowKit
set_option linter.unusedVariables false
set_option linter.unusedSimpArgs false
set_option linter.unusedSectionVars false
set_option maxRecDepth 100000
attribute [local go_sem] Oper.semAt_some

theorem eqB (x y : ByteArray) : (x.toList == y.toList) = decide (x = y) := by
  rw [Lib.toList_data, Lib.toList_data]
  by_cases e : x = y
  · subst e; simp
  · rw [decide_eq_false e]
    rw [beq_eq_false_iff_ne]
    exact fun h => e (ByteArray.ext (Array.ext' h))
theorem above_len {a b : List UInt8} (h : ¬ a.length < b.length) : aboveB a b = false := by
  unfold aboveB
  cases e : List.isPrefixOf (a ++ [47]) b with
  | false => rfl
  | true =>
    have := (List.isPrefixOf_iff_prefix.1 e).length_le
    simp at this
    omega
theorem above_iff {a b : List UInt8} (h : a.length < b.length) : aboveB a b = true ↔ b.take a.length = a ∧ b.getD a.length 0 = 47 := by
  unfold aboveB
  rw [List.isPrefixOf_iff_prefix]
  constructor
  · rintro ⟨t, rfl⟩
    simp
  · rintro ⟨h1, h2⟩
    refine ⟨b.drop (a.length + 1), ?_⟩
    have h3 : b = b.take a.length ++ b.drop a.length := (List.take_append_drop _ _).symm
    rw [List.drop_eq_getElem_cons h] at h3
    have h4 : b[a.length] = 47 := by
      rw [List.getD_eq_getElem?_getD, List.getElem?_eq_getElem h] at h2
      exact h2
    rw [h4, h1] at h3
    rw [List.append_assoc, List.singleton_append]
    exact h3.symm
theorem byteN_getD {s : ByteArray} {k : Nat} (h : k < s.size) : byteN s k = ((s.data.toList.getD k 0).toNat : Int) := by
  unfold byteN
  rw [dif_pos h, List.getD_eq_getElem?_getD, List.getElem?_eq_getElem (by simpa using h)]
  simp
  rfl
set_option maxHeartbeats 2000000 in
theorem rabove_any (a b : ByteArray) (w : World) (ha : a.size ≤ 140737488355328) (hb : b.size ≤ 140737488355328) : Calls Tryd.prog 44 #[.string a, .string b] w fun e w' => e = .returned (.bool (aboveB a.data.toList b.data.toList)) ∧ w = w' := by
  have la : a.data.toList.length = a.size := by simp
  have lb : b.data.toList.length = b.size := by simp
  by_cases hl : a.size < b.size
  · have c1 : (a.size : Int) < b.size := by omega
    have c2 : (0 : Int) ≤ a.size := by omega
    have s1 := fun w => str_to b a.size (by omega) w
    have s2 := fun w => str_index b a.size hl w
    rw [byteN_getD hl] at s2
    have hiff := above_iff (a := a.data.toList) (b := b.data.toList) (by omega)
    rw [la] at hiff
    by_cases h1 : b.data.toList.take a.size = a.data.toList
    · rw [h1, mkB_of] at s1
      by_cases h2 : b.data.toList.getD a.size 0 = 47
      · have HV := Lib.hid (show aboveB a.data.toList b.data.toList = true from hiff.2 ⟨h1, h2⟩)
        rw [h2] at s2
        clear hiff h1 h2 la lb
        go_enter Tryd.func44, Tryd.ntmps44
        go_wp2_with (fail)
        go_ret
        exact ⟨by rw [HV.out]; rfl, rfl⟩
      · have HV := Lib.hid (show aboveB a.data.toList b.data.toList = false from by
          cases e : aboveB a.data.toList b.data.toList with
          | false => rfl
          | true => exact absurd (hiff.1 e).2 h2)
        have h3 : (((b.data.toList.getD a.size 0).toNat : Int) == 47) = false := by
          rw [beq_eq_false_iff_ne]
          intro e
          exact h2 (UInt8.toNat_inj.1 (by show _ = 47; omega))
        clear hiff h1 h2 la lb
        generalize ((b.data.toList.getD a.size 0).toNat : Int) = z at *
        go_enter Tryd.func44, Tryd.ntmps44
        go_wp2_with (fail)
        go_ret
        exact ⟨by rw [HV.out]; rfl, rfl⟩
    · have HV := Lib.hid (show aboveB a.data.toList b.data.toList = false from by
        cases e : aboveB a.data.toList b.data.toList with
        | false => rfl
        | true => exact absurd (hiff.1 e).1 h1)
      have h3 : ((mkB (b.data.toList.take a.size)).toList == a.toList) = false := by
        rw [eqB]
        exact decide_eq_false (fun e => h1 (congrArg (fun x : ByteArray => x.data.toList) e))
      clear hiff h1 la lb s2
      generalize mkB (b.data.toList.take a.size) = X at *
      go_enter Tryd.func44, Tryd.ntmps44
      go_wp2_with (fail)
      go_ret
      exact ⟨by rw [HV.out]; rfl, rfl⟩
  · have HV := Lib.hid (above_len (a := a.data.toList) (b := b.data.toList) (by omega))
    have c1 : ¬ (a.size : Int) < b.size := by omega
    clear la lb
    go_enter Tryd.func44, Tryd.ntmps44
    go_wp2_with (fail)
    go_ret
    exact ⟨by rw [HV.out]; rfl, rfl⟩
set_option maxHeartbeats 2000000 in
theorem rtouch_any (a b : ByteArray) (w : World) (ha : a.size ≤ 140737488355328) (hb : b.size ≤ 140737488355328) : Calls Tryd.prog 19 #[.string a, .string b] w fun e w' => e = .returned (.bool (touchN a b)) ∧ w = w' := by
  have h1 := fun W => rabove_any a b W ha hb
  have h2 := fun W => rabove_any b a W hb ha
  have HT := Lib.hid (show touchN a b = (decide (a = b) || aboveB a.data.toList b.data.toList || aboveB b.data.toList a.data.toList) from rfl)
  have he := eqB a b
  generalize aboveB a.data.toList b.data.toList = x at *
  generalize aboveB b.data.toList a.data.toList = y at *
  generalize decide (a = b) = z at *
  go_enter Tryd.func19, Tryd.ntmps19
  cases z <;> cases x <;> cases y
  all_goals
    go_wp2_with (first
      | (go_at_call 44; with_reducible refine (h1 _).mono ?_; rintro e w1 ⟨rfl, rfl⟩)
      | (go_at_call 44; with_reducible refine (h2 _).mono ?_; rintro e w1 ⟨rfl, rfl⟩))
    go_ret
    exact ⟨by rw [HT.out]; rfl, rfl⟩
end
section
open Go.RowKit
set_option linter.unusedVariables false
set_option linter.unusedSimpArgs false
set_option linter.unusedSectionVars false
set_option maxRecDepth 100000
attribute [local go_sem] Oper.semAt_some

theorem all_getD {p : UInt8 → Bool} {l : List UInt8} : l.all p = true ↔ ∀ y, y < l.length → p (l.getD y 0) = true := by
  rw [List.all_eq_true]
  constructor
  · intro h y hy
    rw [List.getD_eq_getElem?_getD, List.getElem?_eq_getElem hy]
    exact h _ (List.getElem_mem hy)
  · intro h x hx
    obtain ⟨y, hy, rfl⟩ := List.mem_iff_getElem.1 hx
    have := h y hy
    rwa [List.getD_eq_getElem?_getD, List.getElem?_eq_getElem hy] at this
/-- the kinds of a byte, as the code asks for them -/
theorem byte_kind (c : UInt8) : (wordC c = true ∧ c.toNat = 95) ∨ (wordC c = true ∧ 97 ≤ c.toNat ∧ c.toNat ≤ 122) ∨ (wordC c = true ∧ 48 ≤ c.toNat ∧ c.toNat ≤ 57) ∨ (wordC c = false ∧ c.toNat < 48) ∨ (wordC c = false ∧ 57 < c.toNat ∧ c.toNat < 97 ∧ c.toNat ≠ 95) ∨ (wordC c = false ∧ 122 < c.toNat) := by
  unfold wordC
  simp only [Bool.or_eq_true, Bool.and_eq_true, decide_eq_true_eq, Bool.or_eq_false_iff, Bool.and_eq_false_iff, decide_eq_false_iff_not]
  omega
set_option maxHeartbeats 4000000 in
theorem rword_any (s : ByteArray) (w : World) (hs : s.size ≤ 1000000) : Calls Tryd.prog 22 #[.string s] w fun e w' => e = .returned (.bool (wordN s.data.toList)) ∧ w = w' := by
  have la : s.data.toList.length = s.size := by simp
  go_enter Tryd.func22, Tryd.ntmps22
  go_wp2_with (fail)
  go_loopw [3] (fun i wr => ∃ j : Nat, j ≤ s.size ∧ i = .int .i64 j ∧ Hid (∀ y, y < j → wordC (s.data.toList.getD y 0) = true) ∧ w = wr) (fun i _ => s.size - (intOf i).toNat)
  case atStart => exact ⟨0, by omega, rfl, Lib.hid (fun y hy => by omega), rfl⟩
  case round =>
    obtain ⟨j, hj, rfl, hn, hwr⟩ := hrel
    obtain rfl := hwr
    by_cases hlt : j < s.size
    · have cj : (j : Int) < s.size := by omega
      have c0 : (0 : Int) ≤ (j : Int) := by omega
      have d1 : IntKind.i64.wrap ((j : Int) + 1) = (j : Int) + 1 := IntWalk.i64_in _ ⟨by omega, by omega⟩
      have s2 := fun w => str_index s j hlt w
      rw [byteN_getD hlt] at s2
      have HY := fun h => Lib.hid (show ∀ y, y < j + 1 → wordC (s.data.toList.getD y 0) = true from fun y hy => by
        by_cases e : y = j
        · subst e; exact h
        · exact hn.out y (by omega))
      have HN := fun (h : wordC (s.data.toList.getD j 0) = false) => Lib.hid (show wordN s.data.toList = false from by
        unfold wordN
        cases e : s.data.toList.all wordC with
        | false => rfl
        | true => have := all_getD.1 e j (by omega); rw [h] at this; cases this)
      have hk := byte_kind (s.data.toList.getD j 0)
      have hz : ((s.data.toList.getD j 0).toNat : Int) = ((s.data.toList.getD j 0).toNat : Int) := rfl
      obtain ⟨z, hzz⟩ : ∃ z : Nat, (s.data.toList.getD j 0).toNat = z := ⟨_, rfl⟩
      rw [hzz] at s2 hk
      clear hn hz la
      rcases hk with ⟨hw, h1⟩ | ⟨hw, h1, h2⟩ | ⟨hw, h1, h2⟩ | ⟨hw, h1⟩ | ⟨hw, h1, h2, h3⟩ | ⟨hw, h1⟩
      · subst h1
        have HR := HY hw
        clear HY HN hzz hw
        go_wp2_with (fail)
        go_roundw
        case rel => exact ⟨j + 1, by omega, by go_num, HR, by first | rfl | trivial⟩
        case measure => simp [intOf]; omega
      · have HR := HY hw
        have e0 : ((z : Int) != 95) = true := by rw [bne_iff_ne]; omega
        have e1 : ((z : Int) == 95) = false := by rw [beq_eq_false_iff_ne]; omega
        have e2 : ¬ (z : Int) < 97 := by omega
        have e3 : ¬ (122 : Int) < z := by omega
        clear HY HN hzz hw h1 h2
        generalize (z : Int) = x at *
        go_wp2_with (fail)
        go_roundw
        case rel => exact ⟨j + 1, by omega, by go_num, HR, by first | rfl | trivial⟩
        case measure => simp [intOf]; omega
      · have HR := HY hw
        have e0 : ((z : Int) != 95) = true := by rw [bne_iff_ne]; omega
        have e1 : ((z : Int) == 95) = false := by rw [beq_eq_false_iff_ne]; omega
        have e2 : (z : Int) < 97 := by omega
        have e3 : ¬ (z : Int) < 48 := by omega
        have e4 : ¬ (57 : Int) < z := by omega
        clear HY HN hzz hw h1 h2
        generalize (z : Int) = x at *
        go_wp2_with (fail)
        go_roundw
        case rel => exact ⟨j + 1, by omega, by go_num, HR, by first | rfl | trivial⟩
        case measure => simp [intOf]; omega
      · have HR := HN hw
        have e0 : ((z : Int) != 95) = true := by rw [bne_iff_ne]; omega
        have e1 : ((z : Int) == 95) = false := by rw [beq_eq_false_iff_ne]; omega
        have e2 : (z : Int) < 97 := by omega
        have e3 : (z : Int) < 48 := by omega
        clear HY HN hzz hw h1
        generalize (z : Int) = x at *
        go_wp2_with (fail)
        go_ret
        exact ⟨by rw [HR.out]; rfl, rfl⟩
      · have HR := HN hw
        have e0 : ((z : Int) != 95) = true := by rw [bne_iff_ne]; omega
        have e1 : ((z : Int) == 95) = false := by rw [beq_eq_false_iff_ne]; omega
        have e2 : (z : Int) < 97 := by omega
        have e3 : ¬ (z : Int) < 48 := by omega
        have e4 : (57 : Int) < z := by omega
        clear HY HN hzz hw h1 h2 h3
        generalize (z : Int) = x at *
        go_wp2_with (fail)
        go_ret
        exact ⟨by rw [HR.out]; rfl, rfl⟩
      · have HR := HN hw
        have e0 : ((z : Int) != 95) = true := by rw [bne_iff_ne]; omega
        have e1 : ((z : Int) == 95) = false := by rw [beq_eq_false_iff_ne]; omega
        have e2 : ¬ (z : Int) < 97 := by omega
        have e3 : (122 : Int) < z := by omega
        have e4 : ¬ (z : Int) < 48 := by omega
        have e5 : (57 : Int) < z := by omega
        clear HY HN hzz hw h1
        generalize (z : Int) = x at *
        go_wp2_with (fail)
        go_ret
        exact ⟨by rw [HR.out]; rfl, rfl⟩
    · obtain rfl : j = s.size := by omega
      have hall : s.data.toList.all wordC = true := all_getD.2 (fun y hy => hn.out y (by omega))
      have HV := Lib.hid (show wordN s.data.toList = (decide (1 ≤ s.size) && decide (s.size ≤ 16)) from by unfold wordN; rw [hall, la]; rfl)
      clear hn hall la
      by_cases h1 : 1 ≤ s.size <;> by_cases h2 : s.size ≤ 16
      · have c1 : (1 : Int) ≤ s.size := by omega
        have c2 : (s.size : Int) ≤ 16 := by omega
        go_wp2_with (fail)
        go_ret
        exact ⟨by rw [HV.out, decide_eq_true h1, decide_eq_true h2]; rfl, rfl⟩
      · have c1 : (1 : Int) ≤ s.size := by omega
        have c2 : ¬ (s.size : Int) ≤ 16 := by omega
        go_wp2_with (fail)
        go_ret
        exact ⟨by rw [HV.out, decide_eq_true h1, decide_eq_false h2]; rfl, rfl⟩
      · have c1 : ¬ (1 : Int) ≤ s.size := by omega
        go_wp2_with (fail)
        go_ret
        exact ⟨by rw [HV.out, decide_eq_false h1]; rfl, rfl⟩
      · omega
end
section
open Go.RowKit
set_option linter.unusedVariables false
set_option linter.unusedSimpArgs false
set_option linter.unusedSectionVars false
set_option maxRecDepth 100000
attribute [local go_sem] Oper.semAt_some

theorem strAt {w : World} {P : Option Addr} {c : Nat} {l : List ByteArray} (h : SlS w P c l) (i : Nat) (hi : i < l.length) : ∃ b off, P = some ⟨b, off, none⟩ ∧ w.cell? ⟨b, off + i, none⟩ = some (.string (l.getD i ⟨#[]⟩)) := by
  have hx : l[i]? = some (l.getD i ⟨#[]⟩) := by rw [List.getD_eq_getElem?_getD, List.getElem?_eq_getElem hi]; rfl
  obtain ⟨b, off, e, hc⟩ := h.at_ i _ hx
  have h0 := hc 0 _ rfl
  refine ⟨b, off, e, ?_⟩
  rw [← h0]
  congr 2
  simp [csS]
def ptN (s : ByteArray) (i : Nat) : List UInt8 := (cutC 47 s.data.toList).getD i []
theorem cutB_at (s : ByteArray) (i : Nat) (h : i < (cutB 47 s).length) : (cutB 47 s).getD i ⟨#[]⟩ = mkB (ptN s i) := by
  unfold cutB ptN at *
  rw [List.length_map] at h
  rw [List.getD_eq_getElem?_getD, List.getD_eq_getElem?_getD, List.getElem?_map, List.getElem?_eq_getElem h]
  rfl
theorem ptN_all {s : ByteArray} {p : List UInt8 → Bool} : (cutC 47 s.data.toList).all p = true ↔ ∀ y, y < (cutC 47 s.data.toList).length → p (ptN s y) = true := by
  unfold ptN
  rw [List.all_eq_true]
  constructor
  · intro h y hy
    rw [List.getD_eq_getElem?_getD, List.getElem?_eq_getElem hy]
    exact h _ (List.getElem_mem hy)
  · intro h x hx
    obtain ⟨y, hy, rfl⟩ := List.mem_iff_getElem.1 hx
    have := h y hy
    rwa [List.getD_eq_getElem?_getD, List.getElem?_eq_getElem hy] at this
theorem ptN_len (s : ByteArray) (i : Nat) : (ptN s i).length ≤ s.size := by
  unfold ptN
  by_cases h : i < (cutC 47 s.data.toList).length
  · rw [List.getD_eq_getElem?_getD, List.getElem?_eq_getElem h]
    have := cutC_mem 47 s.data.toList _ (List.getElem_mem h)
    simpa using this
  · rw [List.getD_eq_getElem?_getD, List.getElem?_eq_none (by omega)]
    simp
set_option maxHeartbeats 4000000 in
theorem rName_any (s : ByteArray) (w : World) (hs : s.size ≤ 1000000) : Calls Tryd.prog 9 #[.string s] w fun e w' => e = .returned (.bool (nameN s)) ∧ Ext w w' := by
  have hcut := rcut_any s 47 hs w
  have hcl := cutB_size 47 s
  have hlen : (cutB 47 s).length = (cutC 47 s.data.toList).length := by unfold cutB; rw [List.length_map]
  go_enter Tryd.func9, Tryd.ntmps9
  go_wp2_with (fail)
  refine hcut.mono ?_
  rintro e w1 ⟨v, rfl, ho, hx⟩
  obtain ⟨P, c, rfl, hl⟩ := ho.slG elemS (by omega)
  dsimp only
  have HAT := fun i hi => Lib.hid (cutB_at s i hi)
  have hsl := fun i hi => strAt hl i hi
  clear hcut ho
  generalize hL : cutB 47 s = L at *
  clear hL
  go_wp2_with (fail)
  go_loopw [4] (fun i wr => ∃ j : Nat, j ≤ L.length ∧ i = .int .i64 j ∧ Hid (∀ y, y < j → wordN (ptN s y) = true) ∧ w1 = wr) (fun i _ => L.length - (intOf i).toNat)
  case atStart => exact ⟨0, by omega, rfl, Lib.hid (fun y hy => by omega), rfl⟩
  case round =>
    obtain ⟨j, hj, rfl, hn, hwr⟩ := hrel
    obtain rfl := hwr
    by_cases hlt : j < L.length
    · have cj : (j : Int) < L.length := by omega
      have c0 : (0 : Int) ≤ (j : Int) := by omega
      have d1 : IntKind.i64.wrap ((j : Int) + 1) = (j : Int) + 1 := IntWalk.i64_in _ ⟨by omega, by omega⟩
      obtain ⟨b, off, hP, g0⟩ := hsl j hlt
      subst hP
      rw [(HAT j hlt).out] at g0
      have hW := fun W => rword_any (mkB (ptN s j)) W (by rw [mkB_size]; have := ptN_len s j; omega)
      rw [mkB_toList] at hW
      have HY := fun h => Lib.hid (show ∀ y, y < j + 1 → wordN (ptN s y) = true from fun y hy => by
        by_cases e : y = j
        · subst e; exact h
        · exact hn.out y (by omega))
      have HN := fun (h : wordN (ptN s j) = false) => Lib.hid (show nameN s = false from by
        unfold nameN
        cases e : (cutC 47 s.data.toList).all wordN with
        | false => rfl
        | true => have := ptN_all.1 e j (by omega); rw [h] at this; cases this)
      clear hn HAT hsl hlen
      cases hz : wordN (ptN s j) with
      | true =>
        have HR := HY hz
        rw [hz] at hW
        clear HY HN hz
        generalize mkB (ptN s j) = X at *
        go_wp2_with (go_at_call 22; refine (hW _).mono ?_; rintro e w2 ⟨rfl, rfl⟩)
        go_roundw
        case rel => exact ⟨j + 1, by omega, by go_num, HR, by first | rfl | trivial⟩
        case measure => simp [intOf]; omega
      | false =>
        have HR := HN hz
        rw [hz] at hW
        clear HY HN hz
        generalize mkB (ptN s j) = X at *
        go_wp2_with (go_at_call 22; refine (hW _).mono ?_; rintro e w2 ⟨rfl, rfl⟩)
        go_ret
        exact ⟨by rw [HR.out]; rfl, hx⟩
    · obtain rfl : j = L.length := by omega
      have hall : (cutC 47 s.data.toList).all wordN = true := ptN_all.2 (fun y hy => hn.out y (by omega))
      have HV := Lib.hid (show nameN s = decide (L.length ≤ 3) from by unfold nameN; rw [hall, ← hlen]; rfl)
      clear hn hall HAT hsl hlen
      by_cases h1 : L.length ≤ 3
      · have c1 : (L.length : Int) ≤ 3 := by omega
        go_wp2_with (fail)
        go_ret
        exact ⟨by rw [HV.out, decide_eq_true h1]; rfl, hx⟩
      · have c1 : ¬ (L.length : Int) ≤ 3 := by omega
        go_wp2_with (fail)
        go_ret
        exact ⟨by rw [HV.out, decide_eq_false h1]; rfl, hx⟩
/-- what Touch tells -/
def touchV (a b : ByteArray) : Bool := nameN a && nameN b && touchN a b
def touchE (a b : ByteArray) : Int := if (nameN a && nameN b) = true then 0 else 1
theorem touchV_symm (a b : ByteArray) : touchV a b = touchV b a := by
  unfold touchV
  rw [touchN_symm, Bool.and_comm (nameN a)]
set_option maxHeartbeats 2000000 in
theorem rTouch_any (a b : ByteArray) (w : World) (ha : a.size ≤ 1000000) (hb : b.size ≤ 1000000) : Calls Tryd.prog 7 #[.string a, .string b] w fun e w' => e = .returned (.tuple #[.bool (touchV a b), .int .i64 (touchE a b)]) ∧ Ext w w' := by
  have hM := fun s W hs => rName_any s W hs
  have hma := fun W => hM a W ha
  have hmb := fun W => hM b W hb
  by_cases ha2 : nameN a = true <;> by_cases hb2 : nameN b = true
  · have hC := fun W => rtouch_any a b W (by omega) (by omega)
    rw [ha2] at hma
    rw [hb2] at hmb
    have HV := Lib.hid (show touchV a b = touchN a b from by unfold touchV; rw [ha2, hb2]; rfl)
    have HE := Lib.hid (show touchE a b = 0 from by unfold touchE; rw [ha2, hb2]; rfl)
    clear hM ha2 hb2
    generalize touchN a b = z at *
    go_enter Tryd.func7, Tryd.ntmps7
    go_wp2_with (fail)
    refine (hma _).mono ?_
    rintro e w1 ⟨rfl, x1⟩
    dsimp only
    go_wp2_with (fail)
    refine (hmb _).mono ?_
    rintro e w2 ⟨rfl, x2⟩
    dsimp only
    go_wp2_with (go_at_call 19; refine (hC _).mono ?_; rintro e w3 ⟨rfl, rfl⟩)
    go_ret2
    exact ⟨by rw [HV.out, HE.out]; rfl, x1.trans x2⟩
  · have hb3 : nameN b = false := by simpa using hb2
    rw [ha2] at hma
    rw [hb3] at hmb
    have HV := Lib.hid (show touchV a b = false from by unfold touchV; rw [ha2, hb3]; rfl)
    have HE := Lib.hid (show touchE a b = 1 from by unfold touchE; rw [ha2, hb3]; rfl)
    clear hM ha2 hb2 hb3
    go_enter Tryd.func7, Tryd.ntmps7
    go_wp2_with (fail)
    refine (hma _).mono ?_
    rintro e w1 ⟨rfl, x1⟩
    dsimp only
    go_wp2_with (fail)
    refine (hmb _).mono ?_
    rintro e w2 ⟨rfl, x2⟩
    dsimp only
    go_wp2_with (fail)
    go_ret2
    exact ⟨by rw [HV.out, HE.out]; rfl, x1.trans x2⟩
  all_goals
    have ha3 : nameN a = false := by simpa using ha2
    rw [ha3] at hma
    have HV := Lib.hid (show touchV a b = false from by unfold touchV; rw [ha3]; rfl)
    have HE := Lib.hid (show touchE a b = 1 from by unfold touchE; rw [ha3]; rfl)
    clear hM ha2 hb2 ha3
    go_enter Tryd.func7, Tryd.ntmps7
    go_wp2_with (fail)
    refine (hma _).mono ?_
    rintro e w1 ⟨rfl, x1⟩
    dsimp only
    go_wp2_with (fail)
    go_ret2
    exact ⟨by rw [HV.out, HE.out]; rfl, x1⟩
end
end Go.Proofs.YtaciedooeeklpaaDoor
