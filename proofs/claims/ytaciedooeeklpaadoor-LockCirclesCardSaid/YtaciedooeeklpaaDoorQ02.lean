/- TxA; LkF; LkG; Ops (merged by group.py) -/
import Derived.Lib.ItoaMem
import Derived.Lib.AtoiAll
import Derived.Lib.Split
import Derived.Lib.Join
import Derived.Test.YtaciedooeeklpaaDoorQ01
import Derived.Test.YtaciedooeeklpaaDoorQ00
namespace Go.Proofs.YtaciedooeeklpaaDoor
section
open Go
set_option linter.unusedVariables false
set_option maxRecDepth 20000
set_option linter.unusedSimpArgs false

/-! ### cuts -/
def hdc (x : UInt8) : List (List UInt8) → List (List UInt8)
  | [] => [[x]]
  | p :: q => (x :: p) :: q
/-- a text cut at each byte c -/
def cutC (c : UInt8) : List UInt8 → List (List UInt8)
  | [] => [[]]
  | x :: r => if x = c then [] :: cutC c r else hdc x (cutC c r)
theorem cutC_ne (c : UInt8) : ∀ s, cutC c s ≠ []
  | [] => by simp [cutC]
  | x :: r => by
    unfold cutC
    split
    · simp
    · cases h : cutC c r with
      | nil => simp [hdc]
      | cons p q => simp [hdc]
theorem cutC_app (c : UInt8) (r : List UInt8) : ∀ p : List UInt8, c ∉ p → cutC c (p ++ c :: r) = p :: cutC c r
  | [], _ => by simp [cutC]
  | x :: p, h => by
    simp only [List.mem_cons, not_or] at h
    rw [List.cons_append, cutC, if_neg (fun e => h.1 e.symm), cutC_app c r p h.2]
    rfl
theorem cutC_none (c : UInt8) : ∀ p : List UInt8, c ∉ p → cutC c p = [p]
  | [], _ => by simp [cutC]
  | x :: p, h => by
    simp only [List.mem_cons, not_or] at h
    rw [cutC, if_neg (fun e => h.1 e.symm), cutC_none c p h.2]
    rfl
theorem cutC_len (c : UInt8) : ∀ s, (cutC c s).length ≤ s.length + 1
  | [] => by simp [cutC]
  | x :: r => by
    have := cutC_len c r
    unfold cutC
    split
    · simp; omega
    · cases h : cutC c r with
      | nil => simp [hdc]
      | cons p q => rw [h] at this; simp [hdc] at *; omega
theorem cutC_mem (c : UInt8) : ∀ s, ∀ p ∈ cutC c s, p.length ≤ s.length
  | [], p, h => by simp [cutC] at h; simp [h]
  | x :: r, p, h => by
    unfold cutC at h
    split at h
    · rcases List.mem_cons.1 h with rfl | h
      · simp
      · have := cutC_mem c r p h; simp; omega
    · have hm := cutC_mem c r
      cases h' : cutC c r with
      | nil => rw [h'] at h; simp [hdc] at h; simp [h]
      | cons a q =>
        rw [h'] at h hm
        simp only [hdc, List.mem_cons] at h
        rcases h with rfl | h
        · have := hm a (by simp); simp; omega
        · have := hm p (by simp [h]); simp; omega
/-- where the first byte c stands -/
theorem first_of {c : UInt8} : ∀ {s : List UInt8}, c ∈ s → ∃ p r, s = p ++ c :: r ∧ c ∉ p
  | [], h => by simp at h
  | x :: s, h => by
    by_cases e : x = c
    · exact ⟨[], s, by simp [e], by simp⟩
    · obtain ⟨p, r, h1, h2⟩ := first_of (s := s) (by simpa [Ne.symm e] using h)
      exact ⟨x :: p, r, by simp [h1], by simp [h2, Ne.symm e]⟩
theorem index_c_hit (c : UInt8) (r : List UInt8) : ∀ p : List UInt8, c ∉ p → Lib.index (p ++ c :: r) [c] = p.length
  | [], _ => by simp [Lib.index]
  | x :: p, h => by
    simp only [List.mem_cons, not_or] at h
    rw [List.cons_append, Lib.index, index_c_hit c r p h.2]
    have h1 : (c == x) = false := by simpa using h.1
    have h2 : (((p.length : Nat) : Int) == -1) = false := by rw [beq_eq_false_iff_ne]; omega
    simp [List.isPrefixOf, h1, h2]
theorem index_c_none (c : UInt8) : ∀ p : List UInt8, c ∉ p → Lib.index p [c] = -1
  | [], _ => by simp [Lib.index]
  | x :: p, h => by
    simp only [List.mem_cons, not_or] at h
    rw [Lib.index, index_c_none c p h.2]
    have h1 : (c == x) = false := by simpa using h.1
    simp [List.isPrefixOf, h1]
/-- strings.Split at one byte -/
theorem split_cut (c : UInt8) : ∀ (n : Nat) (s : List UInt8), s.length ≤ n → Lib.splitK [c] 0 (Lib.count s [c]) s = cutC c s := by
  intro n
  induction n with
  | zero =>
    intro s h
    have : s = [] := List.eq_nil_of_length_eq_zero (by omega)
    subst this
    rw [Lib.count_miss (by simp [Lib.index])]
    rfl
  | succ n ih =>
    intro s h
    by_cases hc : c ∈ s
    · obtain ⟨p, r, rfl, hp⟩ := first_of hc
      have hi := index_c_hit c r p hp
      have hd : (p ++ c :: r).drop (p.length + 1) = r := by rw [List.drop_append]; simp
      have hs : (p ++ c :: r).drop (p.length + [c].length) = r := hd
      rw [Lib.count_hit (by simp) hi, hs, Nat.add_comm 1, Lib.splitK, hi, cutC_app c r p hp]
      have h2 : ¬ (((p.length : Nat) : Int) == -1) = true := by rw [beq_iff_eq]; omega
      rw [if_neg h2, Int.toNat_natCast, hs, Nat.add_zero, ih r (by simp at h; omega)]
      rw [List.take_append]
      simp
    · have hi := index_c_none c s hc
      rw [Lib.count_miss hi, cutC_none c s hc]
      rfl
theorem count_cut (c : UInt8) (s : List UInt8) : Lib.count s [c] + 1 = (cutC c s).length := by
  have key : ∀ (n : Nat) (s : List UInt8), s.length ≤ n → Lib.count s [c] + 1 = (cutC c s).length := by
    intro n
    induction n with
    | zero =>
      intro s h
      have : s = [] := List.eq_nil_of_length_eq_zero (by omega)
      subst this
      rw [Lib.count_miss (by simp [Lib.index])]
      rfl
    | succ n ih =>
      intro s h
      by_cases hc : c ∈ s
      · obtain ⟨p, r, rfl, hp⟩ := first_of hc
        have hi := index_c_hit c r p hp
        have hd : (p ++ c :: r).drop (p.length + [c].length) = r := by rw [List.drop_append]; simp
        rw [Lib.count_hit (by simp) hi, hd, cutC_app c r p hp, List.length_cons, ← ih r (by simp at h; omega)]
        omega
      · rw [Lib.count_miss (index_c_none c s hc), cutC_none c s hc]; rfl
  exact key s.length s (Nat.le_refl _)
/-- pieces joined by a byte, cut again -/
theorem cutC_join (c : UInt8) : ∀ (ws : List (List UInt8)), ws ≠ [] → (∀ x ∈ ws, c ∉ x) → cutC c (Lib.join ws [c]) = ws
  | [], h, _ => absurd rfl h
  | [a], _, h => by simpa [Lib.join, List.intercalate] using cutC_none c a (h a (by simp))
  | a :: b :: l, _, h => by
    have := cutC_join c (b :: l) (by simp) (fun x hx => h x (by simp [List.mem_cons.1 hx]))
    have e : Lib.join (a :: b :: l) [c] = a ++ c :: Lib.join (b :: l) [c] := by simp [Lib.join, List.intercalate, List.intersperse]
    rw [e, cutC_app c _ a (h a (by simp)), this]

/-! ### lines: strings.Lines -/
def linesC : List UInt8 → List (List UInt8)
  | [] => []
  | x :: r => if x = 10 then [10] :: linesC r else hdc x (linesC r)
theorem linesC_app (r : List UInt8) : ∀ p : List UInt8, (10 : UInt8) ∉ p → linesC (p ++ 10 :: r) = (p ++ [10]) :: linesC r
  | [], _ => by simp [linesC]
  | x :: p, h => by
    simp only [List.mem_cons, not_or] at h
    rw [List.cons_append, linesC, if_neg (fun e => h.1 e.symm), linesC_app r p h.2]
    rfl
theorem linesC_none : ∀ p : List UInt8, (10 : UInt8) ∉ p → p ≠ [] → linesC p = [p]
  | [], _, h => absurd rfl h
  | x :: p, h, _ => by
    simp only [List.mem_cons, not_or] at h
    rw [linesC, if_neg (fun e => h.1 e.symm)]
    by_cases hp : p = []
    · subst hp; rfl
    · rw [linesC_none p h.2 hp]; rfl

/-! ### numerals -/
theorem dec_ne (u : Nat) : Lib.decDigits u ≠ [] := by
  rw [Lib.decDigits]; split <;> simp
theorem dec_digit : ∀ (u : Nat), ∀ c ∈ Lib.decDigits u, 48 ≤ c.toNat ∧ c.toNat ≤ 57 := by
  intro u
  induction u using Nat.strongRecOn with
  | _ u ih =>
    intro c hc
    rw [Lib.decDigits] at hc
    split at hc
    · simp at hc; subst hc; simp; omega
    · rcases List.mem_append.1 hc with h | h
      · exact ih (u / 10) (by omega) c h
      · simp at h; subst h; simp; omega
/-- the digits spelled -/
def spell (acc : Nat) : List UInt8 → Nat
  | [] => acc
  | c :: r => spell (acc * 10 + (c.toNat - 48)) r
theorem spell_app (l : List UInt8) : ∀ (acc : Nat) (r : List UInt8), spell acc (l ++ r) = spell (spell acc l) r := by
  induction l with
  | nil => intro acc r; rfl
  | cons c l ih => intro acc r; exact ih _ r
theorem spell_dec : ∀ (u : Nat), spell 0 (Lib.decDigits u) = u := by
  intro u
  induction u using Nat.strongRecOn with
  | _ u ih =>
    by_cases h : u < 10
    · rw [Lib.decDigits, dif_pos h]
      have e : (UInt8.ofNat (48 + u)).toNat - 48 = u := by simp; omega
      show 0 * 10 + ((UInt8.ofNat (48 + u)).toNat - 48) = u
      rw [e]; omega
    · have h1 := ih (u / 10) (by omega)
      have e : (UInt8.ofNat (48 + u % 10)).toNat - 48 = u % 10 := by simp; omega
      rw [Lib.decDigits, dif_neg h]
      refine (spell_app (Lib.decDigits (u / 10)) 0 _).trans ?_
      generalize spell 0 (Lib.decDigits (u / 10)) = v at h1 ⊢
      subst h1
      show u / 10 * 10 + ((UInt8.ofNat (48 + u % 10)).toNat - 48) = u
      rw [e]; omega
theorem spell_ge : ∀ (l : List UInt8) (acc : Nat), acc ≤ spell acc l
  | [], acc => Nat.le_refl _
  | c :: r, acc => by
    have := spell_ge r (acc * 10 + (c.toNat - 48))
    show acc ≤ spell _ r
    omega
theorem parse_spell : ∀ (l : List UInt8) (acc : Nat), (∀ c ∈ l, 48 ≤ c.toNat ∧ c.toNat ≤ 57) → spell acc l < 18446744073709551616 → Lib.parseUint10 acc l = .ok (spell acc l)
  | [], acc, _, _ => rfl
  | c :: r, acc, hd, h => by
    have h0 := hd c (by simp)
    have h1 : spell (acc * 10 + (c.toNat - 48)) r < 18446744073709551616 := h
    have h2 := spell_ge r (acc * 10 + (c.toNat - 48))
    have ih := parse_spell r (acc * 10 + (c.toNat - 48)) (fun x hx => hd x (by simp [hx])) h1
    have g1 : ¬ 1844674407370955162 ≤ acc := by omega
    have g2 : ¬ 18446744073709551616 ≤ acc * 10 + (c.toNat - 48) := by omega
    simp only [Lib.parseUint10, if_pos h0, if_neg g1, if_neg g2]
    exact ih
theorem parse_dec (u : Nat) (h : u < 18446744073709551616) : Lib.parseMag (Lib.decDigits u) = .ok u := by
  unfold Lib.parseMag
  rw [if_neg (dec_ne u), parse_spell _ 0 (dec_digit u) (by rw [spell_dec]; exact h), spell_dec]
/-- Atoi of Itoa -/
theorem atoi_itoa (n : Int) (h0 : -9223372036854775808 ≤ n) (h1 : n ≤ 9223372036854775807) : Lib.atoiAll (Lib.itoa n) = .ok n := by
  unfold Lib.itoa
  split
  · rename_i hn
    have e : (45 : UInt8).toNat = 45 := by decide
    have e2 : (45 : UInt8).toNat = 43 ∨ (45 : UInt8).toNat = 45 := Or.inr e
    unfold Lib.atoiAll
    simp only [if_pos e2, parse_dec _ (show n.natAbs < 18446744073709551616 by omega)]
    simp only [e, not_true_eq_false, false_and, if_false, true_and]
    rw [if_neg (by omega)]
    simp only [if_true]
    congr 1; omega
  · rename_i hn
    cases hd : Lib.decDigits n.toNat with
    | nil => exact absurd hd (dec_ne _)
    | cons c r =>
      have hc := dec_digit n.toNat c (by rw [hd]; simp)
      unfold Lib.atoiAll
      simp only
      rw [if_neg (by omega), ← hd, parse_dec _ (by omega)]
      have e : ¬ c.toNat = 45 := by omega
      simp only [e, not_false_eq_true, true_and, false_and, if_false]
      rw [if_neg (by omega)]
      congr 1; omega
/-- the number that Atoi tells, whatever the error -/
def atoiV (l : List UInt8) : Int := match Lib.atoiAll l with | .ok v => v | .range => Lib.atoiSat l | _ => 0
theorem atoiV_itoa (n : Int) (h0 : -9223372036854775808 ≤ n) (h1 : n ≤ 9223372036854775807) : atoiV (Lib.itoa n) = n := by
  unfold atoiV; rw [atoi_itoa n h0 h1]
theorem itoa_bytes (n : Int) : ∀ c ∈ Lib.itoa n, c.toNat = 45 ∨ 48 ≤ c.toNat ∧ c.toNat ≤ 57 := by
  intro c hc
  unfold Lib.itoa at hc
  split at hc
  · rcases List.mem_cons.1 hc with rfl | h
    · exact Or.inl (by decide)
    · exact Or.inr (dec_digit _ c h)
  · exact Or.inr (dec_digit _ c hc)
theorem itoa_no (n : Int) (b : UInt8) (h : b.toNat ≠ 45 ∧ ¬ (48 ≤ b.toNat ∧ b.toNat ≤ 57)) : b ∉ Lib.itoa n := fun hm => by
  rcases itoa_bytes n b hm with h1 | h1
  · exact h.1 h1
  · exact h.2 h1
theorem itoa_ne (n : Int) : Lib.itoa n ≠ [] := by
  unfold Lib.itoa
  split
  · simp
  · exact dec_ne _
theorem dec_len (u : Nat) (k : Nat) (h : u < 10 ^ (k + 1)) : (Lib.decDigits u).length ≤ k + 1 := by
  rw [Lib.decDigits_length]
  induction k generalizing u with
  | zero => rw [Lib.nDigits_small (by simpa using h)]; omega
  | succ k ih =>
    by_cases hu : u < 10
    · rw [Lib.nDigits_small hu]; omega
    · rw [Lib.nDigits_big hu]
      have := ih (u / 10) (by rw [Nat.pow_succ] at h; omega)
      omega
end
section
set_option linter.unusedVariables false
set_option linter.unusedSimpArgs false

structure LkSt where
  H : HeldL
  L : LineL
def wordC (c : UInt8) : Bool := decide (c.toNat = 95) || (decide (97 ≤ c.toNat) && decide (c.toNat ≤ 122)) || (decide (48 ≤ c.toNat) && decide (c.toNat ≤ 57))
def wordN (w : List UInt8) : Bool := w.all wordC && decide (1 ≤ w.length) && decide (w.length ≤ 16)
def nameN (s : ByteArray) : Bool := (cutC 47 s.data.toList).all wordN && decide ((cutC 47 s.data.toList).length ≤ 3)
def unitN (u : Int) : Bool := decide (1 ≤ u ∧ u ≤ 1000)
def modeN (m : Int) : Bool := decide (1 ≤ m ∧ m ≤ 3)
def isKey (u : Int) (n : ByteArray) (x : Gr) : Bool := decide (x.1 = u) && decide (x.2.1 = n)
def heldM (H : HeldL) (u : Int) (n : ByteArray) : Option Int := (H.find? fun e => isKey u n e.1).map fun e => e.1.2.2
def waitsB (L : LineL) (u : Int) : Bool := decide (waitsL L u < L.length)
/-- how many changes stand ahead -/
def chgN (L : LineL) : Nat := L.findIdx fun e => !e.2
def passS (H : HeldL) (L : LineL) : List Gr × LkSt := let p := passL (L.length + 1) H L []; (p.2.2, ⟨p.1, p.2.1⟩)
def askE (S : LkSt) (u : Int) (n : ByteArray) (m : Int) : Int := if nameN n = false then 1 else if (unitN u && modeN m) = false then 7 else if waitsB S.L u = true then 9 else if heldM S.H u n = none ∧ 1000 ≤ S.H.length then 4 else 0
/-- a request that is asked -/
def goAsk (S : LkSt) (g : Gr) (c : Bool) : AskR × LkSt :=
  let i := if c = true then chgN S.L else S.L.length
  if forL S.H (S.L.take i) g = [] then ((true, [], []), ⟨giveG S.H g, S.L⟩)
  else
    let L1 := S.L.take i ++ (g, c) :: S.L.drop i
    let s := settleL (L1.length + 1) S.H L1 g.1 (false, [], [])
    (s.1, ⟨s.2.1, s.2.2⟩)
def askS (S : LkSt) (u : Int) (n : ByteArray) (m : Int) : AskR × LkSt :=
  if askE S u n m ≠ 0 then ((false, [], []), S) else match heldM S.H u n with
    | some k => if m ≤ k then ((true, [], []), S) else goAsk S (u, n, m) true
    | none => goAsk S (u, n, m) false
def relE (S : LkSt) (u : Int) (n : ByteArray) : Int := if nameN n = false then 1 else if unitN u = false then 7 else if waitsB S.L u = true then 9 else if heldM S.H u n = none then 8 else 0
def relS (S : LkSt) (u : Int) (n : ByteArray) : List Gr × LkSt := if relE S u n ≠ 0 then ([], S) else passS (S.H.filter fun e => !isKey u n e.1) S.L
def weakE (S : LkSt) (u : Int) (n : ByteArray) (m : Int) : Int := if nameN n = false then 1 else if (unitN u && modeN m) = false then 7 else if waitsB S.L u = true then 9 else match heldM S.H u n with
  | none => 8
  | some k => if k ≤ m then 10 else 0
def weakS (S : LkSt) (u : Int) (n : ByteArray) (m : Int) : List Gr × LkSt := if weakE S u n m ≠ 0 then ([], S) else passS (S.H.map fun e => if isKey u n e.1 = true then ((u, n, m), false) else e) S.L
def endE (u : Int) : Int := if unitN u = false then 7 else 0
def endS (S : LkSt) (u : Int) : List Gr × LkSt := if endE u ≠ 0 then ([], S) else passS (S.H.filter fun e => decide (e.1.1 ≠ u)) (S.L.filter fun e => decide (e.1.1 ≠ u))
def leaveE (S : LkSt) (u : Int) : Int := if unitN u = false then 7 else if waitsB S.L u = true then 0 else 10
def leaveS (S : LkSt) (u : Int) : List Gr × LkSt := if leaveE S u ≠ 0 then ([], S) else passS S.H (S.L.filter fun e => decide (e.1.1 ≠ u))
def resetE (S : LkSt) (u : Int) (n : ByteArray) : Int := if nameN n = false then 1 else if unitN u = false then 7 else if waitsB S.L u = true then 9 else if heldM S.H u n = some 1 then 0 else 8
def resetS (S : LkSt) (u : Int) (n : ByteArray) : LkSt := if resetE S u n ≠ 0 then S else ⟨S.H.map fun e => if isKey u n e.1 = true then (e.1, false) else e, S.L⟩
/-- an act: its kind, its unit, its mode, its name -/
abbrev LAct := Int × Int × Int × ByteArray
def stepLk (S : LkSt) (a : LAct) : LkSt :=
  if a.1 = 0 then (askS S a.2.1 a.2.2.2 a.2.2.1).2 else if a.1 = 1 then (relS S a.2.1 a.2.2.2).2 else if a.1 = 2 then (weakS S a.2.1 a.2.2.2 a.2.2.1).2
  else if a.1 = 3 then (endS S a.2.1).2 else if a.1 = 4 then (leaveS S a.2.1).2 else resetS S a.2.1 a.2.2.2
/-- P23.2, P23.3, P23.4 -/
structure Never (S : LkSt) : Prop where
  units : UnitsN S.L
  clash : NoClash S.H
  keys : KeyU S.H
  blocked : Blocked S.H S.L
  acyc : Acyc S.H S.L
  mode : ∀ x, hasG S.H x → 1 ≤ x.2.2 ∧ x.2.2 ≤ 3
  modeL : ∀ x, hasG S.L x → 1 ≤ x.2.2 ∧ x.2.2 ≤ 3
/-- what a weaker or smaller state keeps -/
structure LessOk (H H' : HeldL) (L L' : LineL) : Prop where
  held : ∀ x, hasG H' x → ∃ y, hasG H y ∧ y.1 = x.1 ∧ y.2.1 = x.2.1 ∧ x.2.2 ≤ y.2.2 ∧ 1 ≤ x.2.2
  line : L'.Sublist L
theorem clash_mono {a m m' : Int} (h : clashN a m' = true) (h1 : m' ≤ m) (h3 : m ≤ 3) (h4 : 1 ≤ m') : clashN a m = true := by
  unfold clashN at *
  simp only [Bool.and_eq_true, Bool.or_eq_true, decide_eq_true_eq] at *
  omega
theorem against_mono {g x y : Gr} (h : against g x = true) (h1 : y.1 = x.1) (h2 : y.2.1 = x.2.1) (h3 : x.2.2 ≤ y.2.2) (h4 : y.2.2 ≤ 3) (h5 : 1 ≤ x.2.2) : against g y = true := by
  unfold against at *
  rw [Bool.and_eq_true] at *
  rw [h1, h2]
  exact ⟨h.1, clash_mono h.2 h3 h4 h5⟩
theorem sub_split {α : Type} {L' L : List α} (hs : L'.Sublist L) : ∀ {A : List α} {r : α} {B : List α}, L' = A ++ r :: B → ∃ C D, L = C ++ r :: D ∧ A.Sublist C := by
  induction hs with
  | slnil => intro A r B h; simp at h
  | cons a hs ih =>
    intro A r B h
    obtain ⟨C, D, e, hc⟩ := ih h
    exact ⟨a :: C, D, by rw [e]; rfl, hc.cons a⟩
  | cons_cons a hs ih =>
    intro A r B h
    cases A with
    | nil =>
      simp only [List.nil_append, List.cons.injEq] at h
      obtain ⟨rfl, rfl⟩ := h
      exact ⟨[], _, rfl, List.nil_sublist _⟩
    | cons b A =>
      simp only [List.cons_append, List.cons.injEq] at h
      obtain ⟨rfl, h⟩ := h
      obtain ⟨C, D, e, hc⟩ := ih h
      exact ⟨a :: C, D, by rw [e]; rfl, List.Sublist.cons_cons a hc⟩
theorem LessOk.keeps {H H' : HeldL} {L L' : LineL} (h : LessOk H H' L L') (hm : ∀ x, hasG H x → 1 ≤ x.2.2 ∧ x.2.2 ≤ 3) :
    (UnitsN L → UnitsN L') ∧ (NoClash H → NoClash H') ∧ (Acyc H L → Acyc H' L') ∧ (∀ x, hasG H' x → 1 ≤ x.2.2 ∧ x.2.2 ≤ 3) ∧ ∀ x, hasG L' x → hasG L x := by
  have hl : ∀ x, hasG L' x → hasG L x := fun x ⟨b, hb⟩ => ⟨b, h.line.subset hb⟩
  refine ⟨fun hu => ?_, fun hc x y hx hy => ?_, fun ha u w => ha u (w.mono fun a b e => ?_), fun x hx => ?_, hl⟩
  · exact hu.sublist (h.line.map _)
  · obtain ⟨x', hx', a1, a2, a3, a4⟩ := h.held x hx
    obtain ⟨y', hy', b1, b2, b3, b4⟩ := h.held y hy
    cases e : against x y with
    | false => rfl
    | true =>
      have h1 := against_mono e b1 b2 b3 (hm y' hy').2 b4
      rw [against_symm] at h1
      have h2 := against_mono h1 a1 a2 a3 (hm x' hx').2 a4
      rw [against_symm, hc x' y' hx' hy'] at h2
      cases h2
  · obtain ⟨A, r, B, h1, h2, h3⟩ := e
    obtain ⟨C, D, h4, h5⟩ := sub_split h.line h1
    refine ⟨C, r, D, h4, h2, ?_⟩
    obtain ⟨x, hx, ha', he⟩ := forL_has.1 h3
    rcases hx with hx | ⟨b, hx⟩
    · obtain ⟨x', hx', a1, a2, a3, a4⟩ := h.held x hx
      exact forL_has.2 ⟨x', .inl hx', against_mono ha' a1 a2 a3 (hm x' hx').2 a4, a1.trans he⟩
    · exact forL_has.2 ⟨x, .inr ⟨b, h5.subset hx⟩, ha', he⟩
  · obtain ⟨x', hx', a1, a2, a3, a4⟩ := h.held x hx
    have := (hm x' hx').2
    omega
theorem never_pass {S : LkSt} (hS : Never S) {H' : HeldL} {L' : LineL} (h : LessOk S.H H' S.L L') (hK : KeyU H') : Never (passS H' L').2 := by
  obtain ⟨k1, k2, k3, k4, k5⟩ := h.keeps hS.mode
  obtain ⟨p, hb⟩ := pass_ok (L'.length + 1) H' L' [] (Nat.lt_succ_self _)
  unfold passS
  refine ⟨p.units (k1 hS.units), p.clash (k2 hS.clash), p.keys hK, hb, p.acyc (k1 hS.units) (k3 hS.acyc), fun x hx => ?_, fun x ⟨b, hx⟩ => hS.modeL x (k5 x ⟨b, p.sub _ hx⟩)⟩
  rcases p.from_ x hx with h | h
  · exact k4 x h
  · exact hS.modeL x (k5 x h)
theorem hasG_filter {H : HeldL} {p : Gr × Bool → Bool} {x : Gr} (h : hasG (H.filter p) x) : hasG H x := by
  obtain ⟨b, hb⟩ := h
  exact ⟨b, (List.mem_filter.1 hb).1⟩
theorem LessOk.same {H : HeldL} {L L' : LineL} (hm : ∀ x, hasG H x → 1 ≤ x.2.2 ∧ x.2.2 ≤ 3) {p : Gr × Bool → Bool} (hl : L'.Sublist L) : LessOk H (H.filter p) L L' :=
  ⟨fun x hx => ⟨x, hasG_filter hx, rfl, rfl, Int.le_refl _, (hm x (hasG_filter hx)).1⟩, hl⟩
theorem heldM_some {H : HeldL} {u k : Int} {n : ByteArray} (h : heldM H u n = some k) : hasG H (u, n, k) := by
  unfold heldM at h
  obtain ⟨e, h1, h2⟩ := Option.map_eq_some_iff.1 h
  have h3 := List.find?_some h1
  have h4 := List.mem_of_find?_eq_some h1
  unfold isKey at h3
  rw [Bool.and_eq_true, decide_eq_true_eq, decide_eq_true_eq] at h3
  obtain ⟨⟨a, b, c⟩, f⟩ := e
  simp only at h2 h3
  obtain ⟨rfl, rfl⟩ := h3
  subst h2
  exact ⟨f, h4⟩
theorem heldM_none {H : HeldL} {u : Int} {n : ByteArray} (h : heldM H u n = none) : ∀ x, hasG H x → isKey u n x = false := fun x ⟨b, hx⟩ => by
  unfold heldM at h
  rw [Option.map_eq_none_iff] at h
  have := List.find?_eq_none.1 h (x, b) hx
  simpa using this
theorem isKey_iff {u : Int} {n : ByteArray} {x : Gr} {m : Int} : isKey u n x = keyN x (u, n, m) := rfl
theorem waitsB_not {L : LineL} {u : Int} (h : waitsB L u = false) : u ∉ L.map fun e => e.1.1 := fun hm => by
  unfold waitsB at h
  exact of_decide_eq_false h (waits_split hm).1
theorem never_go {S : LkSt} (hS : Never S) {g : Gr} {c : Bool} (hu : g.1 ∉ S.L.map fun e => e.1.1) (hm : 1 ≤ g.2.2 ∧ g.2.2 ≤ 3) (hup : ∀ x, hasG S.H x → keyN x g = true → x.2.2 ≤ g.2.2) : Never (goAsk S g c).2 := by
  unfold goAsk
  generalize (if c = true then chgN S.L else S.L.length) = i
  dsimp only
  by_cases hf : forL S.H (S.L.take i) g = []
  · rw [if_pos hf]
    refine ⟨hS.units, noClash_give hS.clash hf, keyU_give hS.keys, fun A r B hL => ?_, fun x w => ?_, fun x hx => ?_, hS.modeL⟩
    · obtain ⟨v, hv⟩ := List.exists_mem_of_ne_nil _ (hS.blocked A r B hL)
      obtain ⟨x, hx, ha, he⟩ := forL_has.1 hv
      refine List.ne_nil_of_mem (a := v) ?_
      rcases hx with hx | hx
      · by_cases hk : keyN x g = true
        · unfold keyN at hk
          rw [Bool.and_eq_true, decide_eq_true_eq, decide_eq_true_eq] at hk
          refine forL_has.2 ⟨g, .inl (giveG_gr.2 (.inl rfl)), against_mono ha hk.1.symm hk.2.symm (hup x hx (by unfold keyN; simp [hk])) hm.2 (hS.mode x hx).1, by rw [← hk.1]; exact he⟩
        · exact forL_has.2 ⟨x, .inl (giveG_gr.2 (.inr ⟨hx, by simpa using hk⟩)), ha, he⟩
      · exact forL_has.2 ⟨x, .inr hx, ha, he⟩
    · refine hS.acyc x (circle_less (x := g.1) (fun v h => hu (edge_unit h)) (fun a b h hb => ?_) w)
      obtain ⟨A, r, B, h1, h2, h3⟩ := h
      refine ⟨A, r, B, h1, h2, ?_⟩
      obtain ⟨y, hy, ha, he⟩ := forL_has.1 h3
      rcases hy with hy | hy
      · rcases giveG_gr.1 hy with rfl | hy
        · exact absurd he.symm hb
        · exact forL_has.2 ⟨y, .inl hy.1, ha, he⟩
      · exact forL_has.2 ⟨y, .inr hy, ha, he⟩
    · rcases giveG_gr.1 hx with rfl | hx
      · exact hm
      · exact hS.mode x hx.1
  · rw [if_neg hf]
    dsimp only
    have hAB : S.L = S.L.take i ++ S.L.drop i := (List.take_append_drop i S.L).symm
    generalize S.L.take i = A0 at *
    generalize S.L.drop i = B0 at *
    have hu1 : UnitsN (A0 ++ (g, c) :: B0) := by
      unfold UnitsN
      rw [List.map_append, List.map_cons, List.perm_middle.nodup_iff, List.nodup_cons, ← List.map_append, ← hAB]
      exact ⟨hu, hS.units⟩
    -- how the list is parted
    have part : ∀ A r B, A0 ++ (g, c) :: B0 = A ++ r :: B → (r = (g, c) ∧ A = A0) ∨ (∃ C, S.L = A ++ r :: C) ∨ (∃ xs C, A = A0 ++ (g, c) :: xs ∧ S.L = (A0 ++ xs) ++ r :: C) := fun A r B h => by
      rcases List.append_eq_append_iff.1 h with ⟨xs, h1, h2⟩ | ⟨cs, h1, h2⟩
      · cases xs with
        | nil =>
          simp only [List.nil_append, List.cons.injEq] at h2
          exact .inl ⟨h2.1.symm, by simpa using h1⟩
        | cons a xs =>
          simp only [List.cons_append, List.cons.injEq] at h2
          obtain ⟨rfl, h2⟩ := h2
          exact .inr (.inr ⟨xs, B, h1, by rw [hAB, h2]; simp⟩)
      · cases cs with
        | nil =>
          simp only [List.nil_append, List.cons.injEq] at h2
          exact .inl ⟨h2.1, by simpa using h1.symm⟩
        | cons a cs =>
          simp only [List.cons_append, List.cons.injEq] at h2
          obtain ⟨rfl, h2⟩ := h2
          exact .inr (.inl ⟨cs ++ B0, by rw [hAB, h1]; simp⟩)
    have hb1 : Blocked S.H (A0 ++ (g, c) :: B0) := fun A r B h => by
      rcases part A r B h with ⟨rfl, rfl⟩ | ⟨C, hC⟩ | ⟨xs, C, rfl, hC⟩
      · exact hf
      · exact hS.blocked A r C hC
      · obtain ⟨v, hv⟩ := List.exists_mem_of_ne_nil _ (hS.blocked _ r C hC)
        obtain ⟨x, hx, ha, he⟩ := forL_has.1 hv
        refine List.ne_nil_of_mem (a := v) (forL_has.2 ⟨x, hx.imp id (hasG_mono (fun y hy => ?_)), ha, he⟩)
        rcases List.mem_append.1 hy with hy | hy
        · exact List.mem_append_left _ hy
        · exact List.mem_append_right _ (List.mem_cons_of_mem _ hy)
    have hx1 : AcycBut g.1 S.H (A0 ++ (g, c) :: B0) := fun x w => hS.acyc x (w.mono fun a b e => by
      obtain ⟨⟨A, r, B, h1, h2, h3⟩, ha, hb⟩ := e
      rcases part A r B h1 with ⟨rfl, rfl⟩ | ⟨C, hC⟩ | ⟨xs, C, rfl, hC⟩
      · exact absurd h2.symm ha
      · exact ⟨A, r, C, hC, h2, h3⟩
      · refine ⟨_, r, C, hC, h2, ?_⟩
        obtain ⟨y, hy, hag, he⟩ := forL_has.1 h3
        refine forL_has.2 ⟨y, hy.imp id (fun hy => ?_), hag, he⟩
        rcases hasG_app.1 hy with hy | ⟨f, hy⟩
        · exact hasG_app.2 (.inl hy)
        · rcases List.mem_cons.1 hy with hy | hy
          · injection hy with hy _
            rw [hy] at he
            exact absurd he.symm hb
          · exact hasG_app.2 (.inr ⟨f, hy⟩))
    obtain ⟨r1, r2, r7, r3, r4, r5, r6⟩ := settle_ok ((A0 ++ (g, c) :: B0).length + 1) S.H (A0 ++ (g, c) :: B0) g.1 (false, [], []) (Nat.lt_succ_self _) hu1 hS.clash hS.keys hb1 hx1
    have hmL : ∀ x, hasG (A0 ++ (g, c) :: B0) x → 1 ≤ x.2.2 ∧ x.2.2 ≤ 3 := fun x ⟨b, hx⟩ => by
      rcases List.mem_append.1 hx with hx | hx
      · exact hS.modeL x ⟨b, by rw [hAB]; exact List.mem_append_left _ hx⟩
      · rcases List.mem_cons.1 hx with hx | hx
        · injection hx with hx _
          rw [hx]; exact hm
        · exact hS.modeL x ⟨b, by rw [hAB]; exact List.mem_append_right _ hx⟩
    refine ⟨r1, r2, r7, r3, r4, fun x hx => ?_, fun x ⟨b, hx⟩ => hmL x ⟨b, r5 _ hx⟩⟩
    rcases r6 x hx with h | h
    · exact hS.mode x h
    · exact hmL x h
theorem never_step {S : LkSt} (hS : Never S) (a : LAct) : Never (stepLk S a) := by
  obtain ⟨k, u, m, n⟩ := a
  unfold stepLk
  dsimp only
  split
  · unfold askS
    by_cases he : askE S u n m ≠ 0
    · rw [if_pos he]; exact hS
    · rw [if_neg he]
      have he : askE S u n m = 0 := by omega
      have hw : waitsB S.L u = false ∧ modeN m = true := by
        unfold askE at he
        split at he
        · cases he
        · split at he
          · cases he
          · next h2 =>
            split at he
            · cases he
            · next h3 =>
              refine ⟨by simpa using h3, ?_⟩
              cases hmm : modeN m with
              | true => rfl
              | false => rw [hmm, Bool.and_false] at h2; exact absurd rfl h2
      have hm := of_decide_eq_true hw.2
      cases hh : heldM S.H u n with
      | some k =>
        dsimp only
        by_cases hk : m ≤ k
        · rw [if_pos hk]; exact hS
        · rw [if_neg hk]
          refine never_go hS (waitsB_not hw.1) hm (fun x hx hkx => ?_)
          have := hS.keys x (u, n, k) hx (heldM_some hh) hkx
          rw [this]
          show k ≤ m
          omega
      | none =>
        dsimp only
        refine never_go hS (waitsB_not hw.1) hm (fun x hx hkx => ?_)
        have := heldM_none hh x hx
        rw [isKey_iff (m := m), hkx] at this
        cases this
  · split
    · unfold relS
      split
      · exact hS
      · refine never_pass hS (LessOk.same hS.mode (List.Sublist.refl _)) (fun x y hx hy => hS.keys x y (hasG_filter hx) (hasG_filter hy))
    · split
      · unfold weakS
        by_cases he : weakE S u n m ≠ 0
        · rw [if_pos he]; exact hS
        · rw [if_neg he]
          have he : weakE S u n m = 0 := by omega
          have hw : modeN m = true ∧ ∃ k, heldM S.H u n = some k ∧ m < k := by
            unfold weakE at he
            split at he
            · cases he
            · split at he
              · cases he
              · next h2 =>
                split at he
                · cases he
                · refine ⟨?_, ?_⟩
                  · cases hmm : modeN m with
                    | true => rfl
                    | false => rw [hmm, Bool.and_false] at h2; exact absurd rfl h2
                  · cases hh : heldM S.H u n with
                    | none => rw [hh] at he; cases he
                    | some k =>
                      rw [hh] at he
                      dsimp only at he
                      split at he
                      · cases he
                      · exact ⟨k, rfl, by omega⟩
          obtain ⟨hm, k, hk, hmk⟩ := hw
          have hm := of_decide_eq_true hm
          have hgr : ∀ x, hasG (S.H.map fun e => if isKey u n e.1 = true then ((u, n, m), false) else e) x → (x = (u, n, m) ∨ (hasG S.H x ∧ isKey u n x = false)) := fun x ⟨b, hx⟩ => by
            obtain ⟨e, he, h2⟩ := List.mem_map.1 hx
            by_cases hke : isKey u n e.1 = true
            · rw [if_pos hke] at h2
              injection h2 with h2 _
              exact .inl h2.symm
            · rw [if_neg hke] at h2
              subst h2
              exact .inr ⟨⟨b, he⟩, by simpa using hke⟩
          refine never_pass hS ⟨fun x hx => ?_, List.Sublist.refl _⟩ (fun x y hx hy hxy => ?_)
          · rcases hgr x hx with rfl | ⟨hx, _⟩
            · exact ⟨(u, n, k), heldM_some hk, rfl, rfl, by show m ≤ k; omega, hm.1⟩
            · exact ⟨x, hx, rfl, rfl, Int.le_refl _, (hS.mode x hx).1⟩
          · rcases hgr x hx with rfl | ⟨hx, kx⟩ <;> rcases hgr y hy with rfl | ⟨hy, ky⟩
            · rfl
            · rw [keyN_symm, ← isKey_iff, ky] at hxy; cases hxy
            · rw [← isKey_iff, kx] at hxy; cases hxy
            · exact hS.keys x y hx hy hxy
      · split
        · unfold endS
          split
          · exact hS
          · exact never_pass hS (LessOk.same hS.mode List.filter_sublist) (fun x y hx hy => hS.keys x y (hasG_filter hx) (hasG_filter hy))
        · split
          · unfold leaveS
            split
            · exact hS
            · refine never_pass hS ⟨fun x hx => ⟨x, hx, rfl, rfl, Int.le_refl _, (hS.mode x hx).1⟩, List.filter_sublist⟩ hS.keys
          · unfold resetS
            split
            · exact hS
            · have hgr : ∀ x, hasG (S.H.map fun e => if isKey u n e.1 = true then (e.1, false) else e) x ↔ hasG S.H x := fun x => by
                constructor
                · rintro ⟨b, hx⟩
                  obtain ⟨e, he, h2⟩ := List.mem_map.1 hx
                  split at h2
                  · injection h2 with h2 _; exact ⟨e.2, by rw [← h2]; exact he⟩
                  · exact ⟨b, by rw [← h2]; exact he⟩
                · rintro ⟨b, hx⟩
                  by_cases hk : isKey u n x = true
                  · exact ⟨false, List.mem_map.2 ⟨(x, b), hx, by rw [if_pos hk]⟩⟩
                  · exact ⟨b, List.mem_map.2 ⟨(x, b), hx, by rw [if_neg hk]⟩⟩
              have hfo : ∀ A g v, v ∈ forL (S.H.map fun e => if isKey u n e.1 = true then (e.1, false) else e) A g ↔ v ∈ forL S.H A g := fun A g v => by
                rw [forL_has, forL_has]
                constructor
                · rintro ⟨x, hx, h⟩; exact ⟨x, hx.imp (hgr x).1 id, h⟩
                · rintro ⟨x, hx, h⟩; exact ⟨x, hx.imp (hgr x).2 id, h⟩
              refine ⟨hS.units, fun x y hx hy => hS.clash x y ((hgr x).1 hx) ((hgr y).1 hy), fun x y hx hy => hS.keys x y ((hgr x).1 hx) ((hgr y).1 hy), fun A r B hL => ?_, fun x w => hS.acyc x (w.mono fun a b e => ?_), fun x hx => hS.mode x ((hgr x).1 hx), hS.modeL⟩
              · obtain ⟨v, hv⟩ := List.exists_mem_of_ne_nil _ (hS.blocked A r B hL)
                exact List.ne_nil_of_mem ((hfo A r.1 v).2 hv)
              · obtain ⟨A, r, B, h1, h2, h3⟩ := e
                exact ⟨A, r, B, h1, h2, (hfo A r.1 b).1 h3⟩
theorem never_none : Never ⟨[], []⟩ := by
  have h0 : ∀ x, ¬ hasG [] x := fun x ⟨b, h⟩ => by cases h
  refine ⟨List.nodup_nil, fun x y h => absurd h (h0 x), fun x y h => absurd h (h0 x), fun A r B h => by simp at h, fun u w => ?_, fun x h => absurd h (h0 x), fun x h => absurd h (h0 x)⟩
  obtain ⟨x, A, r, B, h, _⟩ := w.first
  simp at h
end
section
set_option linter.unusedVariables false
set_option linter.unusedSimpArgs false

/-- who holds or waits -/
def InU (S : LkSt) (u : Int) : Prop := ∃ x : Gr, (hasG S.H x ∨ hasG S.L x) ∧ x.1 = u
theorem pass_inU {H : HeldL} {L : LineL} {u : Int} (h : InU (passS H L).2 u) : InU ⟨H, L⟩ u := by
  obtain ⟨p, _⟩ := pass_ok (L.length + 1) H L [] (Nat.lt_succ_self _)
  obtain ⟨x, hx, e⟩ := h
  rcases hx with hx | ⟨b, hx⟩
  · exact ⟨x, p.from_ x hx, e⟩
  · exact ⟨x, .inr ⟨b, p.sub _ hx⟩, e⟩
theorem end_inU {S : LkSt} {u v : Int} (hu : endE u = 0) (h : InU (endS S u).2 v) : InU S v ∧ v ≠ u := by
  unfold endS at h
  rw [if_neg (by rw [hu]; decide)] at h
  obtain ⟨x, hx, e⟩ := pass_inU h
  rcases hx with ⟨b, hx⟩ | ⟨b, hx⟩
  · have h1 := List.mem_filter.1 hx
    exact ⟨⟨x, .inl ⟨b, h1.1⟩, e⟩, by rw [← e]; exact of_decide_eq_true h1.2⟩
  · have h1 := List.mem_filter.1 hx
    exact ⟨⟨x, .inr ⟨b, h1.1⟩, e⟩, by rw [← e]; exact of_decide_eq_true h1.2⟩
theorem ended : ∀ (us : List Int) (S : LkSt), (∀ u ∈ us, endE u = 0) → (∀ v, InU S v → v ∈ us) → us.foldl (fun S u => (endS S u).2) S = ⟨[], []⟩
  | [], S, _, h => by
    obtain ⟨H, L⟩ := S
    have h1 : H = [] := by
      cases H with
      | nil => rfl
      | cons e H => have := h e.1.1 ⟨e.1, .inl ⟨e.2, List.mem_cons_self ..⟩, rfl⟩; cases this
    have h2 : L = [] := by
      cases L with
      | nil => rfl
      | cons e L => have := h e.1.1 ⟨e.1, .inr ⟨e.2, List.mem_cons_self ..⟩, rfl⟩; cases this
    rw [h1, h2]
    rfl
  | u :: us, S, hu, h => by
    rw [List.foldl_cons]
    refine ended us _ (fun v hv => hu v (List.mem_cons_of_mem _ hv)) (fun v hv => ?_)
    obtain ⟨h1, h2⟩ := end_inU (hu u (List.mem_cons_self ..)) hv
    rcases List.mem_cons.1 (h v h1) with h3 | h3
    · exact absurd h3 h2
    · exact h3
end
section
open Go.RowKit
set_option linter.unusedVariables false
set_option maxRecDepth 20000

/-- Only block g has changed (and new blocks may be there). -/
def Upd (w : World) (g : Nat) (w' : World) : Prop := w.grownBy w' (some g)
theorem Upd.refl (w : World) (g : Nat) : Upd w g w := ⟨rfl, rfl, rfl, Nat.le_refl _, fun _ _ _ => rfl⟩
theorem Upd.trans {a b c : World} {g : Nat} (h : Upd a g b) (k : Upd b g c) : Upd a g c :=
  ⟨k.os.trans h.os, k.tape.trans h.tape, k.output.trans h.output, Nat.le_trans h.size k.size, fun i hi hne => (k.block i (Nat.lt_of_lt_of_le hi h.size) hne).trans (h.block i hi hne)⟩
theorem Upd.of_ext {a b : World} (h : Ext a b) (g : Nat) : Upd a g b := ⟨h.os, h.tape, h.output, h.size, fun i hi _ => h.block hi⟩
theorem Upd.ext {a b c : World} {g : Nat} (h : Ext a b) (k : Upd b g c) (hg : a.heap.size ≤ g) : Ext a c :=
  Below.grown h k h.size (fun k hk => by injection hk with hk; omega)
theorem Upd.setCell (w : World) (g i : Nat) (v : Value) : Upd w g (w.setCell ⟨g, i, none⟩ v) :=
  ⟨rfl, rfl, rfl, by simp [World.setCell], fun k _ hk => Below.heap_setCell _ _ _ _ (fun e => hk (by simp [e]))⟩
theorem Upd.setRow (w : World) (g : Nat) (cs : Array Value) : Upd w g (w.setRow g cs) :=
  ⟨rfl, rfl, rfl, by simp [World.setRow], fun k _ hk => setRow_other w g k cs (fun e => hk (by simp [e]))⟩
theorem Upd.heap {a b : World} {g : Nat} (h : Upd a g b) {k : Nat} {o : Obj} (hk : a.heap[k]? = some o) (hne : k ≠ g) : b.heap[k]? = some o := by
  have hlt : k < a.heap.size := by
    rcases Nat.lt_or_ge k a.heap.size with hlt | hge
    · exact hlt
    · rw [Array.getElem?_eq_none hge] at hk; cases hk
  rw [h.block k hlt (fun e => hne (by injection e))]; exact hk
theorem Upd.cell {a b : World} {g : Nat} (h : Upd a g b) {p : Addr} {v : Value} (hc : a.cell? p = some v) (hne : p.block ≠ g) : b.cell? p = some v := by
  rw [World.cell?_of_block (h.block p.block (block_lt hc) (fun e => hne (by injection e)))]; exact hc
theorem Upd.drew {a b : World} {g : Nat} (h : Upd a g b) : Upd a g b.drew := ⟨h.os, h.tape, h.output, h.size, h.block⟩

def byteCellsOf (l : List UInt8) : List Value := l.map fun b => Value.int .u8 b.toNat

theorem u8_info : ∃ i, Tryd.prog.info? 5 = some i ∧ i.zero = some (.int .u8 0) ∧ i.size = 1 ∧ i.bytes = 1 := by
  have h : (Tryd.prog.info? 5).map (fun i => (i.zero, i.size, i.bytes)) = some (some (.int .u8 0), 1, 1) := by kernel_rfl
  cases hq : Tryd.prog.info? 5 with
  | none => simp [hq] at h
  | some i => simp [hq] at h; exact ⟨i, rfl, h.1, h.2.1, h.2.2⟩
theorem u8_size : (Tryd.prog.info? 5).map (·.size) = some 1 := by kernel_rfl

section
variable {w : World} {ops : Array Oper} {rest : List Oper} {o : Oper} {a : Act} {K : Act → World → Prop} {Q : Exit → Act → World → Prop} {E : Prop}



theorem splice_map {α β : Type} (f : α → β) (L : List α) (k : Nat) (cs : List α) : splice (L.map f) k (cs.map f) = (splice L k cs).map f := by simp [splice]









end
end
end Go.Proofs.YtaciedooeeklpaaDoor
