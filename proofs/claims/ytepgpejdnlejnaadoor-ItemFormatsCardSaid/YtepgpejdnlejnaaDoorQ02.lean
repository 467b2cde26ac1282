/- ItT; TxA; TxB; TxC; Map (merged by group.py) -/
import Derived.Test.YtepgpejdnlejnaaDoorQ00
import Derived.Test.YtepgpejdnlejnaaDoorQ01
import Derived.Stop.RegionWithIn
import Derived.Sort.QuietIn
import Derived.Laws.Runes
import Derived.Lib.ItoaMem
import Derived.Lib.AtoiAll
import Derived.Lib.Split
import Derived.Lib.Join
import Derived.Maps.OwnSet
namespace Go.Proofs.YtepgpejdnlejnaaDoor
section
open Go.RowKit
set_option linter.unusedVariables false
set_option linter.unusedSimpArgs false
set_option linter.unusedSectionVars false
set_option maxRecDepth 100000
attribute [local go_sem] Oper.semAt_some

def hexT : List UInt8 := [48, 49, 50, 51, 52, 53, 54, 55, 56, 57, 97, 98, 99, 100, 101, 102]
def hexd (n : Nat) : UInt8 := hexT.getD n 0
theorem bits15 : ∀ n : Fin 256, bits .and .u8 (n.val : Int) 15 = ((n.val % 16 : Nat) : Int) := by decide +kernel
theorem run_and15 (n : Nat) (h : n < 256) (w : World) : (binOp .and 5 (.int .u8 (n : Int)) (.int .u8 15)).run Tryd.prog w = .ok (.int .u8 ((n % 16 : Nat) : Int)) w := by
  rw [binOp_and, intBits_and, bits15 ⟨n, h⟩]
  rfl
theorem run_shr4 (n : Nat) (w : World) : (binOp .shr 5 (.int .u8 (n : Int)) (.int .u64 4)).run Tryd.prog w = .ok (.int .u8 ((n / 16 : Nat) : Int)) w := by
  rw [binOp_shr, shift_shr_u8 _ _ _ (by decide) (by decide)]
  simp
def hexS : ByteArray := ⟨#[48, 49, 50, 51, 52, 53, 54, 55, 56, 57, 97, 98, 99, 100, 101, 102]⟩
theorem hexN : ∀ n : Fin 16, byteN hexS n.val = ((hexd n.val).toNat : Int) := by decide +kernel
theorem hexE : ∀ n : Fin 16, (Utf8.encode ((hexd n.val).toNat : Int)).data = #[hexd n.val] := by decide +kernel
theorem run_hex (n : Nat) (h : n < 16) (w : World) : (Instr.index 9 (.string hexS) (.int .u8 (n : Int))).run Tryd.prog w = .ok (.int .u8 ((hexd n).toNat : Int)) w := by
  rw [run_index_string (P := Tryd.prog) (w := w) 9 hexS .u8 (n : Int) Tryd.underlying9, dif_pos ⟨by omega, by show (n : Int) < 16; omega⟩]
  have := hexN ⟨n, h⟩
  unfold byteN at this
  rw [dif_pos (show n < hexS.size from h)] at this
  rw [← this]
  rfl
theorem run_chr (n : Nat) (h : n < 16) (w : World) : (convert 5 9 (.int .u8 ((hexd n).toNat : Int))).run Tryd.prog w = .ok (.string ⟨#[hexd n]⟩) w := by
  rw [run_convert_int_string w 5 9 .u8 _ (by rw [Tryd.underlying5]; rfl) Tryd.underlying9]
  have := hexE ⟨n, h⟩
  rw [show Utf8.encode ((hexd n).toNat : Int) = ⟨#[hexd n]⟩ from ByteArray.ext this]
def escL (c : UInt8) : List UInt8 := if c = 34 ∨ c = 92 then [92, c] else if c < 32 ∨ 126 < c then [92, 120, hexd (c.toNat / 16), hexd (c.toNat % 16)] else [c]
def byteU (s : ByteArray) (i : Nat) : UInt8 := s.data.toList.getD i 0
def escS (s : ByteArray) (i : Nat) : ByteArray := ⟨(escL (byteU s i)).toArray⟩
theorem byteU_N (s : ByteArray) (i : Nat) (h : i < s.size) : byteN s i = ((byteU s i).toNat : Int) := by
  unfold byteN byteU
  rw [dif_pos h]
  have h' : i < s.data.toList.length := by simpa using h
  rw [List.getD_eq_getElem?_getD, List.getElem?_eq_getElem h']
  simp
  rfl
theorem one_extract (s : ByteArray) (i : Nat) (h : i < s.size) : s.extract i (i + 1) = ⟨#[byteU s i]⟩ := by
  apply ByteArray.ext
  have h' : i < s.data.size := h
  have h2 : i < s.data.toList.length := by simpa using h'
  simp only [ByteArray.data_extract, byteU]
  apply Array.ext'
  rw [Array.toList_extract, List.extract_eq_take_drop, show i + 1 - i = 1 from by omega, List.drop_eq_getElem_cons h2]
  simp [List.getD_eq_getElem?_getD, h']
  rw [Array.getElem?_eq_getElem h']
  rfl
theorem str_one (s : ByteArray) (k : Nat) (hk : k < s.size) (w : World) : (Instr.slice 9 (.string s) (some (.int .i64 (k : Int))) (some (.int .i64 ((k : Int) + 1))) none).run Tryd.prog w = .ok (.string ⟨#[byteU s k]⟩) w := by
  rw [run_slice_string (P := Tryd.prog) w 9 s .i64 .i64 (k : Int) ((k : Int) + 1) Tryd.underlying9 (by omega) (by omega) (by omega)]
  rw [show ((k : Int)).toNat = k from rfl, show ((k : Int) + 1).toNat = k + 1 from by omega, one_extract s k hk]
theorem escL_plain {c : UInt8} (h1 : ¬ c = 34) (h2 : ¬ c = 92) (h3 : ¬ c.toNat < 32) (h4 : ¬ 126 < c.toNat) : escL c = [c] := by
  unfold escL
  rw [if_neg (by simp [h1, h2]), if_neg]
  rintro (h | h)
  · exact h3 (UInt8.lt_iff_toNat_lt.1 h)
  · exact h4 (UInt8.lt_iff_toNat_lt.1 h)
theorem escL_hex {c : UInt8} (h1 : ¬ c = 34) (h2 : ¬ c = 92) (h3 : c.toNat < 32 ∨ 126 < c.toNat) : escL c = [92, 120, hexd (c.toNat / 16), hexd (c.toNat % 16)] := by
  unfold escL
  rw [if_neg (by simp [h1, h2]), if_pos]
  rcases h3 with h | h
  · exact .inl (UInt8.lt_iff_toNat_lt.2 h)
  · exact .inr (UInt8.lt_iff_toNat_lt.2 h)
theorem yield_cases {e : Ending} {A B : Prop} {C : List PanicEntry → Prop} (h : (e = .returned (.bool true) ∧ A) ∨ (e = .returned (.bool false) ∧ B) ∨ ∃ ch, e = .panicked ch ∧ C ch) :
    (∃ ch, e = .panicked ch ∧ C ch) ∨ ∃ t, e = .returned (.bool t) ∧ (t = true ∧ A ∨ t = false ∧ B) := by
  rcases h with ⟨h, a⟩ | ⟨h, b⟩ | h
  · exact .inr ⟨true, h, .inl ⟨rfl, a⟩⟩
  · exact .inr ⟨false, h, .inr ⟨rfl, b⟩⟩
  · exact .inl h
theorem escaped_any (s : ByteArray) (w : World) :
    Calls Tryd.prog 99 #[.string s] w fun e w' => e = .returned (.func (.func 113) #[] #[.pointer (some ⟨w.heap.size, 0, none⟩)]) ∧ w' = w.alloc (.cells #[.string s] 9) := by
  go_enter Tryd.func99, Tryd.ntmps99
  go_wp2
  go_ret
  exact ⟨rfl, rfl⟩
set_option maxHeartbeats 4000000 in
theorem escaped_seq (s : ByteArray) (c : Nat) (hp : s.size ≤ 140737488355328) :
    SeqP Tryd.prog 113 #[.pointer (some ⟨c, 0, none⟩)] (fun i => #[.string (escS s i)]) s.size (fun A => A.cell? ⟨c, 0, none⟩ = some (.string s)) := by
  intro l J Jx Jp W hJ hJx hK hY h0
  have hc0 := hK 0 W h0
  refine callsIn_of_wp Tryd.func113 rfl trivial ?_ rfl
  simp only [Tryd.ntmps113, List.size_toArray, List.length_cons, List.length_nil, Nat.reduceAdd, Nat.reduceSub, Array.replicate_succ, Array.replicate_zero, List.push_toArray, List.append_toArray, List.nil_append, List.cons_append]
  gi_wp2
  gi_loopw [8, 3, 4, 5, 19, 28] (fun i _ _ _ _ _ wr => ∃ k : Nat, k ≤ s.size ∧ i = .int .i64 k ∧ J k wr) (fun i _ _ _ _ _ _ => s.size - (intOf i).toNat)
  case atStart => exact ⟨0, by omega, rfl, h0⟩
  case round =>
    obtain ⟨k, hk, rfl, hj⟩ := hrel
    by_cases hlt : k < s.size
    · have hc := hK _ _ hj
      have c1 : (k : Int) < s.size := by omega
      have hw2 : IntKind.i64.wrap ((k : Int) + 1) = k + 1 := IntWalk.i64_in _ ⟨by omega, by omega⟩
      have hi0 : ∀ w, (Instr.index 9 (.string s) (.int .i64 k)).run Tryd.prog w = .ok (.int .u8 (byteN s k)) w := fun w => str_index s k hlt w
      have hsl := fun w => str_one s k hlt w
      rw [byteU_N s k hlt] at hi0
      obtain ⟨u, hu⟩ : ∃ u, byteU s k = u := ⟨_, rfl⟩
      have HU := Lib.hid hu
      rw [hu] at hsl hi0
      clear hu
      by_cases q1 : u = 34
      · subst q1
        have HE : escS s k = ⟨#[92]⟩ ++ ⟨#[34]⟩ := by unfold escS; rw [HU.out]; rfl
        obtain ⟨fn, tmps, assign, body, hy, hR⟩ := hY k wr hj hlt
        rw [HE] at hy
        gi_wp2_with (refine ⟨rfl, ?_⟩; refine hR.mono ?_; intro e W3 h3; rcases yield_cases h3 with ⟨ch, rfl, hp3⟩ | ⟨t, rfl, h4⟩; exact ⟨rfl, .inr ⟨k, ch, hlt, rfl, hp3⟩⟩; clear h3; rcases h4 with ⟨rfl, hj3⟩ | ⟨rfl, hx3⟩)
        all_goals first
          | (go_roundw
             case rel => exact ⟨k + 1, by omega, by go_num, hj3⟩
             case measure => simp [intOf, hw2]; omega)
          | (refine bodyPost_ret (results_none rfl _ _ _) rfl ?_
             exact .inl ⟨⟨_, rfl⟩, .inr ⟨k, hlt, hx3⟩⟩)
      · by_cases q2 : u = 92
        · subst q2
          have HE : escS s k = ⟨#[92]⟩ ++ ⟨#[92]⟩ := by unfold escS; rw [HU.out]; rfl
          obtain ⟨fn, tmps, assign, body, hy, hR⟩ := hY k wr hj hlt
          rw [HE] at hy
          gi_wp2_with (refine ⟨rfl, ?_⟩; refine hR.mono ?_; intro e W3 h3; rcases yield_cases h3 with ⟨ch, rfl, hp3⟩ | ⟨t, rfl, h4⟩; exact ⟨rfl, .inr ⟨k, ch, hlt, rfl, hp3⟩⟩; clear h3; rcases h4 with ⟨rfl, hj3⟩ | ⟨rfl, hx3⟩)
          all_goals first
            | (go_roundw
               case rel => exact ⟨k + 1, by omega, by go_num, hj3⟩
               case measure => simp [intOf, hw2]; omega)
            | (refine bodyPost_ret (results_none rfl _ _ _) rfl ?_
               exact .inl ⟨⟨_, rfl⟩, .inr ⟨k, hlt, hx3⟩⟩)
        · have n1 : ((u.toNat : Int) == 34) = false := by
            simp only [beq_eq_false_iff_ne, ne_eq]
            intro e
            exact q1 (UInt8.toNat_inj.1 (by simpa using (by omega : u.toNat = 34)))
          have n2 : ((u.toNat : Int) == 92) = false := by
            simp only [beq_eq_false_iff_ne, ne_eq]
            intro e
            exact q2 (UInt8.toNat_inj.1 (by simpa using (by omega : u.toNat = 92)))
          by_cases q3 : u.toNat < 32
          · have c3 : (u.toNat : Int) < 32 := by omega
            have HQ := Lib.hid (And.intro q1 q2)
            have HE : escS s k = ⟨#[92, 120]⟩ ++ ⟨#[hexd (u.toNat / 16)]⟩ ++ ⟨#[hexd (u.toNat % 16)]⟩ := by unfold escS; rw [HU.out, escL_hex HQ.out.1 HQ.out.2 (by omega)]; rfl
            have h256 : u.toNat < 256 := u.toNat_lt
            have z1 := bits15 ⟨u.toNat, h256⟩
            simp only at z1
            have z3 : ∀ w, (Instr.index 9 (.string ⟨#[48, 49, 50, 51, 52, 53, 54, 55, 56, 57, 97, 98, 99, 100, 101, 102]⟩) (.int .u8 ((u.toNat : Int) / 16))).run Tryd.prog w = .ok (.int .u8 ((hexd (u.toNat / 16)).toNat : Int)) w := fun w => by
              have := run_hex (u.toNat / 16) (by omega) w
              rwa [Int.natCast_ediv] at this
            have z4 : ∀ w, (Instr.index 9 (.string ⟨#[48, 49, 50, 51, 52, 53, 54, 55, 56, 57, 97, 98, 99, 100, 101, 102]⟩) (.int .u8 ((u.toNat % 16 : Nat) : Int))).run Tryd.prog w = .ok (.int .u8 ((hexd (u.toNat % 16)).toNat : Int)) w := fun w => run_hex _ (by omega) w
            have z5 := fun w => run_chr (u.toNat / 16) (by omega) w
            have z6 := fun w => run_chr (u.toNat % 16) (by omega) w
            clear q1 q2 q3
            generalize hexd (u.toNat / 16) = d1 at *
            generalize hexd (u.toNat % 16) = d2 at *
            generalize u.toNat % 16 = m2 at *
            have hYn := fun n => hY k (wr.drewN n) (hJ _ _ _ hj ((Ext.refl wr).drewN n)) hlt
            rw [HE] at hYn
            gi_wp2
            gi_quiet (fail)
            obtain ⟨fn, tmps, assign, body, hy, hR⟩ := hYn nq
            gi_wp2_with (refine ⟨rfl, ?_⟩; refine hR.mono ?_; intro e W3 h3; rcases yield_cases h3 with ⟨ch, rfl, hp3⟩ | ⟨t, rfl, h4⟩; exact ⟨rfl, .inr ⟨k, ch, hlt, rfl, hp3⟩⟩; clear h3; rcases h4 with ⟨rfl, hj3⟩ | ⟨rfl, hx3⟩)
            all_goals first
              | (go_roundw
                 case rel => exact ⟨k + 1, by omega, by go_num, hj3⟩
                 case measure => simp [intOf, hw2]; omega)
              | (refine bodyPost_ret (results_none rfl _ _ _) rfl ?_
                 exact .inl ⟨⟨_, rfl⟩, .inr ⟨k, hlt, hx3⟩⟩)
          · by_cases q4 : 126 < u.toNat
            · have c3 : decide ((u.toNat : Int) < 32) = false := decide_eq_false (by omega)
              have c4 : (126 : Int) < (u.toNat : Int) := by omega
              have HQ := Lib.hid (And.intro q1 q2)
              have HE : escS s k = ⟨#[92, 120]⟩ ++ ⟨#[hexd (u.toNat / 16)]⟩ ++ ⟨#[hexd (u.toNat % 16)]⟩ := by unfold escS; rw [HU.out, escL_hex HQ.out.1 HQ.out.2 (by omega)]; rfl
              have h256 : u.toNat < 256 := u.toNat_lt
              have z1 := bits15 ⟨u.toNat, h256⟩
              simp only at z1
              have z3 : ∀ w, (Instr.index 9 (.string ⟨#[48, 49, 50, 51, 52, 53, 54, 55, 56, 57, 97, 98, 99, 100, 101, 102]⟩) (.int .u8 ((u.toNat : Int) / 16))).run Tryd.prog w = .ok (.int .u8 ((hexd (u.toNat / 16)).toNat : Int)) w := fun w => by
                have := run_hex (u.toNat / 16) (by omega) w
                rwa [Int.natCast_ediv] at this
              have z4 : ∀ w, (Instr.index 9 (.string ⟨#[48, 49, 50, 51, 52, 53, 54, 55, 56, 57, 97, 98, 99, 100, 101, 102]⟩) (.int .u8 ((u.toNat % 16 : Nat) : Int))).run Tryd.prog w = .ok (.int .u8 ((hexd (u.toNat % 16)).toNat : Int)) w := fun w => run_hex _ (by omega) w
              have z5 := fun w => run_chr (u.toNat / 16) (by omega) w
              have z6 := fun w => run_chr (u.toNat % 16) (by omega) w
              clear q1 q2 q3 q4
              generalize hexd (u.toNat / 16) = d1 at *
              generalize hexd (u.toNat % 16) = d2 at *
              generalize u.toNat % 16 = m2 at *
              have hYn := fun n => hY k (wr.drewN n) (hJ _ _ _ hj ((Ext.refl wr).drewN n)) hlt
              rw [HE] at hYn
              gi_wp2
              gi_quiet (fail)
              obtain ⟨fn, tmps, assign, body, hy, hR⟩ := hYn nq
              gi_wp2_with (refine ⟨rfl, ?_⟩; refine hR.mono ?_; intro e W3 h3; rcases yield_cases h3 with ⟨ch, rfl, hp3⟩ | ⟨t, rfl, h4⟩; exact ⟨rfl, .inr ⟨k, ch, hlt, rfl, hp3⟩⟩; clear h3; rcases h4 with ⟨rfl, hj3⟩ | ⟨rfl, hx3⟩)
              all_goals first
                | (go_roundw
                   case rel => exact ⟨k + 1, by omega, by go_num, hj3⟩
                   case measure => simp [intOf, hw2]; omega)
                | (refine bodyPost_ret (results_none rfl _ _ _) rfl ?_
                   exact .inl ⟨⟨_, rfl⟩, .inr ⟨k, hlt, hx3⟩⟩)
            · have c3 : decide ((u.toNat : Int) < 32) = false := decide_eq_false (by omega)
              have c4 : decide ((126 : Int) < (u.toNat : Int)) = false := decide_eq_false (by omega)
              have HQ := Lib.hid (And.intro (And.intro q1 q2) (And.intro q3 q4))
              clear q1 q2 q3 q4
              have HE : escS s k = ⟨#[u]⟩ := by unfold escS; rw [HU.out, escL_plain HQ.out.1.1 HQ.out.1.2 HQ.out.2.1 HQ.out.2.2]
              obtain ⟨fn, tmps, assign, body, hy, hR⟩ := hY k wr hj hlt
              rw [HE] at hy
              gi_wp2_with (refine ⟨rfl, ?_⟩; refine hR.mono ?_; intro e W3 h3; rcases yield_cases h3 with ⟨ch, rfl, hp3⟩ | ⟨t, rfl, h4⟩; exact ⟨rfl, .inr ⟨k, ch, hlt, rfl, hp3⟩⟩; clear h3; rcases h4 with ⟨rfl, hj3⟩ | ⟨rfl, hx3⟩)
              all_goals first
                | (go_roundw
                   case rel => exact ⟨k + 1, by omega, by go_num, hj3⟩
                   case measure => simp [intOf, hw2]; omega)
                | (refine bodyPost_ret (results_none rfl _ _ _) rfl ?_
                   exact .inl ⟨⟨_, rfl⟩, .inr ⟨k, hlt, hx3⟩⟩)
    · obtain rfl : k = s.size := by omega
      gi_wp2
      go_end0
      exact .inl ⟨⟨_, rfl⟩, .inl hj⟩
end
section
open Go
set_option linter.unusedVariables false
set_option linter.unusedSimpArgs false

/-! ### cuts -/
def hdc (x : UInt8) : List (List UInt8) → List (List UInt8)
  | [] => [[x]]
  | p :: q => (x :: p) :: q
/-- a text cut at each byte c -/
def cutC (c : UInt8) : List UInt8 → List (List UInt8)
  | [] => [[]]
  | x :: r => if x = c then [] :: cutC c r else hdc x (cutC c r)
theorem cutC_ne (c : UInt8) : ∀ s, cutC c s ≠ []
  | [] => by simp [cutC]
  | x :: r => by
    unfold cutC
    split
    · simp
    · cases h : cutC c r with
      | nil => simp [hdc]
      | cons p q => simp [hdc]
theorem cutC_app (c : UInt8) (r : List UInt8) : ∀ p : List UInt8, c ∉ p → cutC c (p ++ c :: r) = p :: cutC c r
  | [], _ => by simp [cutC]
  | x :: p, h => by
    simp only [List.mem_cons, not_or] at h
    rw [List.cons_append, cutC, if_neg (fun e => h.1 e.symm), cutC_app c r p h.2]
    rfl
theorem cutC_none (c : UInt8) : ∀ p : List UInt8, c ∉ p → cutC c p = [p]
  | [], _ => by simp [cutC]
  | x :: p, h => by
    simp only [List.mem_cons, not_or] at h
    rw [cutC, if_neg (fun e => h.1 e.symm), cutC_none c p h.2]
    rfl
theorem cutC_len (c : UInt8) : ∀ s, (cutC c s).length ≤ s.length + 1
  | [] => by simp [cutC]
  | x :: r => by
    have := cutC_len c r
    unfold cutC
    split
    · simp; omega
    · cases h : cutC c r with
      | nil => simp [hdc]
      | cons p q => rw [h] at this; simp [hdc] at *; omega
theorem cutC_mem (c : UInt8) : ∀ s, ∀ p ∈ cutC c s, p.length ≤ s.length
  | [], p, h => by simp [cutC] at h; simp [h]
  | x :: r, p, h => by
    unfold cutC at h
    split at h
    · rcases List.mem_cons.1 h with rfl | h
      · simp
      · have := cutC_mem c r p h; simp; omega
    · have hm := cutC_mem c r
      cases h' : cutC c r with
      | nil => rw [h'] at h; simp [hdc] at h; simp [h]
      | cons a q =>
        rw [h'] at h hm
        simp only [hdc, List.mem_cons] at h
        rcases h with rfl | h
        · have := hm a (by simp); simp; omega
        · have := hm p (by simp [h]); simp; omega
/-- where the first byte c stands -/
theorem first_of {c : UInt8} : ∀ {s : List UInt8}, c ∈ s → ∃ p r, s = p ++ c :: r ∧ c ∉ p
  | [], h => by simp at h
  | x :: s, h => by
    by_cases e : x = c
    · exact ⟨[], s, by simp [e], by simp⟩
    · obtain ⟨p, r, h1, h2⟩ := first_of (s := s) (by simpa [Ne.symm e] using h)
      exact ⟨x :: p, r, by simp [h1], by simp [h2, Ne.symm e]⟩
theorem index_c_hit (c : UInt8) (r : List UInt8) : ∀ p : List UInt8, c ∉ p → Lib.index (p ++ c :: r) [c] = p.length
  | [], _ => by simp [Lib.index]
  | x :: p, h => by
    simp only [List.mem_cons, not_or] at h
    rw [List.cons_append, Lib.index, index_c_hit c r p h.2]
    have h1 : (c == x) = false := by simpa using h.1
    have h2 : (((p.length : Nat) : Int) == -1) = false := by rw [beq_eq_false_iff_ne]; omega
    simp [List.isPrefixOf, h1, h2]
theorem index_c_none (c : UInt8) : ∀ p : List UInt8, c ∉ p → Lib.index p [c] = -1
  | [], _ => by simp [Lib.index]
  | x :: p, h => by
    simp only [List.mem_cons, not_or] at h
    rw [Lib.index, index_c_none c p h.2]
    have h1 : (c == x) = false := by simpa using h.1
    simp [List.isPrefixOf, h1]
/-- strings.Split at one byte -/
theorem split_cut (c : UInt8) : ∀ (n : Nat) (s : List UInt8), s.length ≤ n → Lib.splitK [c] 0 (Lib.count s [c]) s = cutC c s := by
  intro n
  induction n with
  | zero =>
    intro s h
    have : s = [] := List.eq_nil_of_length_eq_zero (by omega)
    subst this
    rw [Lib.count_miss (by simp [Lib.index])]
    rfl
  | succ n ih =>
    intro s h
    by_cases hc : c ∈ s
    · obtain ⟨p, r, rfl, hp⟩ := first_of hc
      have hi := index_c_hit c r p hp
      have hd : (p ++ c :: r).drop (p.length + 1) = r := by rw [List.drop_append]; simp
      have hs : (p ++ c :: r).drop (p.length + [c].length) = r := hd
      rw [Lib.count_hit (by simp) hi, hs, Nat.add_comm 1, Lib.splitK, hi, cutC_app c r p hp]
      have h2 : ¬ (((p.length : Nat) : Int) == -1) = true := by rw [beq_iff_eq]; omega
      rw [if_neg h2, Int.toNat_natCast, hs, Nat.add_zero, ih r (by simp at h; omega)]
      rw [List.take_append]
      simp
    · have hi := index_c_none c s hc
      rw [Lib.count_miss hi, cutC_none c s hc]
      rfl
theorem count_cut (c : UInt8) (s : List UInt8) : Lib.count s [c] + 1 = (cutC c s).length := by
  have key : ∀ (n : Nat) (s : List UInt8), s.length ≤ n → Lib.count s [c] + 1 = (cutC c s).length := by
    intro n
    induction n with
    | zero =>
      intro s h
      have : s = [] := List.eq_nil_of_length_eq_zero (by omega)
      subst this
      rw [Lib.count_miss (by simp [Lib.index])]
      rfl
    | succ n ih =>
      intro s h
      by_cases hc : c ∈ s
      · obtain ⟨p, r, rfl, hp⟩ := first_of hc
        have hi := index_c_hit c r p hp
        have hd : (p ++ c :: r).drop (p.length + [c].length) = r := by rw [List.drop_append]; simp
        rw [Lib.count_hit (by simp) hi, hd, cutC_app c r p hp, List.length_cons, ← ih r (by simp at h; omega)]
        omega
      · rw [Lib.count_miss (index_c_none c s hc), cutC_none c s hc]; rfl
  exact key s.length s (Nat.le_refl _)
/-- pieces joined by a byte, cut again -/
theorem cutC_join (c : UInt8) : ∀ (ws : List (List UInt8)), ws ≠ [] → (∀ x ∈ ws, c ∉ x) → cutC c (Lib.join ws [c]) = ws
  | [], h, _ => absurd rfl h
  | [a], _, h => by simpa [Lib.join, List.intercalate] using cutC_none c a (h a (by simp))
  | a :: b :: l, _, h => by
    have := cutC_join c (b :: l) (by simp) (fun x hx => h x (by simp [List.mem_cons.1 hx]))
    have e : Lib.join (a :: b :: l) [c] = a ++ c :: Lib.join (b :: l) [c] := by simp [Lib.join, List.intercalate, List.intersperse]
    rw [e, cutC_app c _ a (h a (by simp)), this]

/-! ### lines: strings.Lines -/
def linesC : List UInt8 → List (List UInt8)
  | [] => []
  | x :: r => if x = 10 then [10] :: linesC r else hdc x (linesC r)
theorem linesC_app (r : List UInt8) : ∀ p : List UInt8, (10 : UInt8) ∉ p → linesC (p ++ 10 :: r) = (p ++ [10]) :: linesC r
  | [], _ => by simp [linesC]
  | x :: p, h => by
    simp only [List.mem_cons, not_or] at h
    rw [List.cons_append, linesC, if_neg (fun e => h.1 e.symm), linesC_app r p h.2]
    rfl
theorem linesC_none : ∀ p : List UInt8, (10 : UInt8) ∉ p → p ≠ [] → linesC p = [p]
  | [], _, h => absurd rfl h
  | x :: p, h, _ => by
    simp only [List.mem_cons, not_or] at h
    rw [linesC, if_neg (fun e => h.1 e.symm)]
    by_cases hp : p = []
    · subst hp; rfl
    · rw [linesC_none p h.2 hp]; rfl

/-! ### numerals -/
theorem dec_ne (u : Nat) : Lib.decDigits u ≠ [] := by
  rw [Lib.decDigits]; split <;> simp
theorem dec_digit : ∀ (u : Nat), ∀ c ∈ Lib.decDigits u, 48 ≤ c.toNat ∧ c.toNat ≤ 57 := by
  intro u
  induction u using Nat.strongRecOn with
  | _ u ih =>
    intro c hc
    rw [Lib.decDigits] at hc
    split at hc
    · simp at hc; subst hc; simp; omega
    · rcases List.mem_append.1 hc with h | h
      · exact ih (u / 10) (by omega) c h
      · simp at h; subst h; simp; omega
/-- the digits spelled -/
def spell (acc : Nat) : List UInt8 → Nat
  | [] => acc
  | c :: r => spell (acc * 10 + (c.toNat - 48)) r
theorem spell_app (l : List UInt8) : ∀ (acc : Nat) (r : List UInt8), spell acc (l ++ r) = spell (spell acc l) r := by
  induction l with
  | nil => intro acc r; rfl
  | cons c l ih => intro acc r; exact ih _ r
theorem spell_dec : ∀ (u : Nat), spell 0 (Lib.decDigits u) = u := by
  intro u
  induction u using Nat.strongRecOn with
  | _ u ih =>
    by_cases h : u < 10
    · rw [Lib.decDigits, dif_pos h]
      have e : (UInt8.ofNat (48 + u)).toNat - 48 = u := by simp; omega
      show 0 * 10 + ((UInt8.ofNat (48 + u)).toNat - 48) = u
      rw [e]; omega
    · have h1 := ih (u / 10) (by omega)
      have e : (UInt8.ofNat (48 + u % 10)).toNat - 48 = u % 10 := by simp; omega
      rw [Lib.decDigits, dif_neg h]
      refine (spell_app (Lib.decDigits (u / 10)) 0 _).trans ?_
      generalize spell 0 (Lib.decDigits (u / 10)) = v at h1 ⊢
      subst h1
      show u / 10 * 10 + ((UInt8.ofNat (48 + u % 10)).toNat - 48) = u
      rw [e]; omega
theorem spell_ge : ∀ (l : List UInt8) (acc : Nat), acc ≤ spell acc l
  | [], acc => Nat.le_refl _
  | c :: r, acc => by
    have := spell_ge r (acc * 10 + (c.toNat - 48))
    show acc ≤ spell _ r
    omega
theorem parse_spell : ∀ (l : List UInt8) (acc : Nat), (∀ c ∈ l, 48 ≤ c.toNat ∧ c.toNat ≤ 57) → spell acc l < 18446744073709551616 → Lib.parseUint10 acc l = .ok (spell acc l)
  | [], acc, _, _ => rfl
  | c :: r, acc, hd, h => by
    have h0 := hd c (by simp)
    have h1 : spell (acc * 10 + (c.toNat - 48)) r < 18446744073709551616 := h
    have h2 := spell_ge r (acc * 10 + (c.toNat - 48))
    have ih := parse_spell r (acc * 10 + (c.toNat - 48)) (fun x hx => hd x (by simp [hx])) h1
    have g1 : ¬ 1844674407370955162 ≤ acc := by omega
    have g2 : ¬ 18446744073709551616 ≤ acc * 10 + (c.toNat - 48) := by omega
    simp only [Lib.parseUint10, if_pos h0, if_neg g1, if_neg g2]
    exact ih
theorem parse_dec (u : Nat) (h : u < 18446744073709551616) : Lib.parseMag (Lib.decDigits u) = .ok u := by
  unfold Lib.parseMag
  rw [if_neg (dec_ne u), parse_spell _ 0 (dec_digit u) (by rw [spell_dec]; exact h), spell_dec]
/-- Atoi of Itoa -/
theorem atoi_itoa (n : Int) (h0 : -9223372036854775808 ≤ n) (h1 : n ≤ 9223372036854775807) : Lib.atoiAll (Lib.itoa n) = .ok n := by
  unfold Lib.itoa
  split
  · rename_i hn
    have e : (45 : UInt8).toNat = 45 := by decide
    have e2 : (45 : UInt8).toNat = 43 ∨ (45 : UInt8).toNat = 45 := Or.inr e
    unfold Lib.atoiAll
    simp only [if_pos e2, parse_dec _ (show n.natAbs < 18446744073709551616 by omega)]
    simp only [e, not_true_eq_false, false_and, if_false, true_and]
    rw [if_neg (by omega)]
    simp only [if_true]
    congr 1; omega
  · rename_i hn
    cases hd : Lib.decDigits n.toNat with
    | nil => exact absurd hd (dec_ne _)
    | cons c r =>
      have hc := dec_digit n.toNat c (by rw [hd]; simp)
      unfold Lib.atoiAll
      simp only
      rw [if_neg (by omega), ← hd, parse_dec _ (by omega)]
      have e : ¬ c.toNat = 45 := by omega
      simp only [e, not_false_eq_true, true_and, false_and, if_false]
      rw [if_neg (by omega)]
      congr 1; omega
/-- the number that Atoi tells, whatever the error -/
def atoiV (l : List UInt8) : Int := match Lib.atoiAll l with | .ok v => v | .range => Lib.atoiSat l | _ => 0
theorem atoiV_itoa (n : Int) (h0 : -9223372036854775808 ≤ n) (h1 : n ≤ 9223372036854775807) : atoiV (Lib.itoa n) = n := by
  unfold atoiV; rw [atoi_itoa n h0 h1]
theorem itoa_bytes (n : Int) : ∀ c ∈ Lib.itoa n, c.toNat = 45 ∨ 48 ≤ c.toNat ∧ c.toNat ≤ 57 := by
  intro c hc
  unfold Lib.itoa at hc
  split at hc
  · rcases List.mem_cons.1 hc with rfl | h
    · exact Or.inl (by decide)
    · exact Or.inr (dec_digit _ c h)
  · exact Or.inr (dec_digit _ c hc)
theorem itoa_no (n : Int) (b : UInt8) (h : b.toNat ≠ 45 ∧ ¬ (48 ≤ b.toNat ∧ b.toNat ≤ 57)) : b ∉ Lib.itoa n := fun hm => by
  rcases itoa_bytes n b hm with h1 | h1
  · exact h.1 h1
  · exact h.2 h1
theorem itoa_ne (n : Int) : Lib.itoa n ≠ [] := by
  unfold Lib.itoa
  split
  · simp
  · exact dec_ne _
theorem dec_len (u : Nat) (k : Nat) (h : u < 10 ^ (k + 1)) : (Lib.decDigits u).length ≤ k + 1 := by
  rw [Lib.decDigits_length]
  induction k generalizing u with
  | zero => rw [Lib.nDigits_small (by simpa using h)]; omega
  | succ k ih =>
    by_cases hu : u < 10
    · rw [Lib.nDigits_small hu]; omega
    · rw [Lib.nDigits_big hu]
      have := ih (u / 10) (by rw [Nat.pow_succ] at h; omega)
      omega
end
section
open Go
set_option linter.unusedVariables false
set_option linter.unusedSimpArgs false

def isDg (c : UInt8) : Bool := decide (48 ≤ c.toNat) && decide (c.toNat ≤ 57)
/-- the digits at the front, 17 at most -/
def dgs (t : List UInt8) : List UInt8 := (t.take 17).takeWhile isDg
/-- a number at the front: its value, and how many bytes it has -/
def magF (minus : Bool) (t : List UInt8) : Int × Int :=
  if dgs t = [] ∨ 1 < (dgs t).length ∧ t.head? = some 48 ∨ minus = true ∧ spell 0 (dgs t) = 0 ∨ 17 ≤ (dgs t).length then (0, 0)
  else (if minus then -(spell 0 (dgs t) : Int) else spell 0 (dgs t), (dgs t).length + (if minus then 1 else 0))
def numF (t : List UInt8) : Int × Int := if t.head? = some 45 then magF true t.tail else magF false t
def wholeF (t : List UInt8) : Int × Bool := ((numF t).1, decide (0 < (numF t).2) && decide ((numF t).2 = t.length))
theorem takeWhile_all {l : List UInt8} (h : ∀ c ∈ l, isDg c = true) : l.takeWhile isDg = l := by
  induction l with
  | nil => rfl
  | cons c l ih => simp [List.takeWhile, h c (by simp), ih (fun x hx => h x (by simp [hx]))]
theorem dgs_all {l : List UInt8} (h : ∀ c ∈ l, isDg c = true) (hl : l.length ≤ 17) : dgs l = l := by
  unfold dgs
  rw [List.take_of_length_le hl, takeWhile_all h]
theorem dec_isDg (u : Nat) : ∀ c ∈ Lib.decDigits u, isDg c = true := fun c hc => by
  have := dec_digit u c hc
  simp [isDg, this]
theorem dec_head : ∀ (u : Nat), 1 ≤ u → (Lib.decDigits u).head? ≠ some 48 := by
  intro u
  induction u using Nat.strongRecOn with
  | _ u ih =>
    intro h1
    by_cases h : u < 10
    · rw [Lib.decDigits, dif_pos h]
      intro e
      simp only [List.head?_cons, Option.some.injEq] at e
      have := congrArg UInt8.toNat e
      simp at this
      omega
    · rw [Lib.decDigits, dif_neg h]
      have h2 := ih (u / 10) (by omega) (by omega)
      cases hd : Lib.decDigits (u / 10) with
      | nil => exact absurd hd (dec_ne _)
      | cons c r => rw [hd] at h2; simpa using h2
theorem mag_dec (u : Nat) (hu : u < 10000000000000000) (minus : Bool) (hm : minus = true → 1 ≤ u) :
    magF minus (Lib.decDigits u) = (if minus then -(u : Int) else u, ((Lib.decDigits u).length : Int) + (if minus then 1 else 0)) := by
  have hl := dec_len u 15 (by omega)
  have hd := dgs_all (dec_isDg u) (by omega)
  unfold magF
  rw [hd, spell_dec, if_neg]
  rintro (h | ⟨h1, h2⟩ | ⟨h1, h2⟩ | h)
  · exact dec_ne u h
  · by_cases h0 : 1 ≤ u
    · exact dec_head u h0 h2
    · have : u = 0 := by omega
      subst this
      rw [Lib.decDigits, dif_pos (by omega)] at h1
      simp at h1
  · have := hm h1; omega
  · omega
/-- Whole of Decimal -/
theorem whole_itoa (n : Int) (h0 : -10000000000000000 < n) (h1 : n < 10000000000000000) : wholeF (Lib.itoa n) = (n, true) := by
  by_cases hn : n < 0
  · have e : Lib.itoa n = 45 :: Lib.decDigits n.natAbs := by unfold Lib.itoa; rw [if_pos hn]
    have hm := mag_dec n.natAbs (by omega) true (by omega)
    have hp : 1 ≤ (Lib.decDigits n.natAbs).length := by
      cases h : Lib.decDigits n.natAbs with
      | nil => exact absurd h (dec_ne _)
      | cons c r => simp
    unfold wholeF numF
    rw [e, List.head?_cons, if_pos rfl, List.tail_cons, hm, List.length_cons]
    simp only [if_true]
    congr 1
    · omega
    · simp
  · have e : Lib.itoa n = Lib.decDigits n.toNat := by unfold Lib.itoa; rw [if_neg hn]
    have hm := mag_dec n.toNat (by omega) false (by simp)
    have hh : (Lib.decDigits n.toNat).head? ≠ some 45 := by
      cases h : Lib.decDigits n.toNat with
      | nil => simp
      | cons c r =>
        have := dec_digit n.toNat c (by rw [h]; simp)
        intro e; simp at e; subst e; simp at this
    have hp : 1 ≤ (Lib.decDigits n.toNat).length := by
      cases h : Lib.decDigits n.toNat with
      | nil => exact absurd h (dec_ne _)
      | cons c r => simp
    unfold wholeF numF
    rw [e, if_neg hh, hm]
    congr 1
    · simp; omega
    · simp; omega
end
section
open Go.RowKit
set_option linter.unusedVariables false
set_option linter.unusedSimpArgs false
set_option linter.unusedSectionVars false
set_option maxRecDepth 100000
attribute [local go_sem] Oper.semAt_some

theorem enc_dig : ∀ d : Fin 10, (Utf8.encode (48 + (d.val : Int))).data = #[UInt8.ofNat (48 + d.val)] := by decide +kernel
theorem enc_digit (d : Nat) (h : d < 10) : Utf8.encode (48 + (d : Int)) = ⟨#[UInt8.ofNat (48 + d)]⟩ := ByteArray.ext (enc_dig ⟨d, h⟩)
theorem str_app (a b : List UInt8) : ((⟨a.toArray⟩ : ByteArray) ++ ⟨b.toArray⟩) = ⟨(a ++ b).toArray⟩ := by
  apply ByteArray.ext
  simp
theorem dec_step (u : Nat) (h : ¬ u < 10) (r : List UInt8) : Lib.decDigits (u / 10) ++ UInt8.ofNat (48 + u % 10) :: r = Lib.decDigits u ++ r := by
  rw [Lib.decDigits.eq_def u, dif_neg h]; simp
/-- what is left of a number's digits -/
def DecRel (n k : Nat) (S : ByteArray) : Prop := Lib.decDigits k ++ S.data.toList = Lib.decDigits n
theorem DecRel.size {n k : Nat} {S : ByteArray} (h : DecRel n k S) (hn : n ≤ 9223372036854775807) : S.size ≤ 20 := by
  have := congrArg List.length h
  rw [List.length_append] at this
  have h2 := dec_len n 18 (by omega)
  have h3 : S.data.toList.length = S.size := by simp
  omega
theorem app_toList (a b : ByteArray) : (a ++ b).data.toList = a.data.toList ++ b.data.toList := by simp
/-- a number that is not negative -/
theorem rdec_nat (n : Nat) (hn : n ≤ 9223372036854775807) (w : World) :
    Calls Tryd.prog 83 #[.int .i64 n] w fun e w' => e = .returned (.string ⟨(Lib.decDigits n).toArray⟩) ∧ w = w' := by
  have c0 : ((n : Int) == -9223372036854775808) = false := by rw [beq_eq_false_iff_ne]; omega
  have c1 : ¬ (n : Int) < 0 := by omega
  go_enter Tryd.func83, Tryd.ntmps83
  go_wp2
  clear c0 c1
  go_loop [0, 3] (fun i v => ∃ (k : Nat) (S : ByteArray), k ≤ n ∧ i = .int .i64 k ∧ v = .string S ∧ DecRel n k S) (fun i _ => (intOf i).toNat)
  case atStart => exact ⟨n, ⟨#[]⟩, Nat.le_refl _, rfl, rfl, by simp [DecRel]⟩
  case round =>
    obtain ⟨k, S, hk, rfl, rfl, hr⟩ := hrel
    by_cases h : k < 10
    · have c2 : ¬ (10 : Int) ≤ k := by omega
      have d1 : IntKind.i64.wrap (48 + (k : Int)) = 48 + (k : Int) := IntWalk.i64_in _ ⟨by omega, by omega⟩
      have d2 : IntKind.i32.wrap (48 + (k : Int)) = 48 + (k : Int) := by simp [IntKind.wrap, IntKind.bits, IntKind.signed]; omega
      have HE := enc_digit k h
      obtain ⟨D, hD⟩ : ∃ D, (⟨#[UInt8.ofNat (48 + k)]⟩ : ByteArray) = D := ⟨_, rfl⟩
      rw [hD] at HE
      have HR : Hid (D ++ S = ⟨(Lib.decDigits n).toArray⟩) := Lib.hid (by
        apply ByteArray.ext
        apply Array.ext'
        rw [app_toList, ← hD, ← hr, Lib.decDigits, dif_pos h])
      have hz := hr.size hn
      have hd1 : D.size = 1 := by rw [← hD]; rfl
      have hlim : ¬ 9223372036854775807 < D.size + S.size := by omega
      clear hd1
      clear hr hD
      go_wp2
      go_ret
      exact ⟨by rw [HR.out]; rfl, rfl⟩
    · have c2 : (10 : Int) ≤ k := by omega
      obtain ⟨m, hm⟩ : ∃ m : Nat, k % 10 = m := ⟨_, rfl⟩
      obtain ⟨q, hq⟩ : ∃ q : Nat, k / 10 = q := ⟨_, rfl⟩
      have e1 : (k : Int) % 10 = m := by omega
      have e2 : (k : Int) / 10 = q := by omega
      have HE := enc_digit m (by omega)
      obtain ⟨D, hD⟩ : ∃ D, (⟨#[UInt8.ofNat (48 + m)]⟩ : ByteArray) = D := ⟨_, rfl⟩
      rw [hD] at HE
      have HR : Hid (DecRel n q (D ++ S)) := Lib.hid (by
        unfold DecRel at hr ⊢
        rw [app_toList, ← hD, ← hq, ← hr]
        have := dec_step k h S.data.toList
        rw [hm] at this
        exact this)
      have hz := hr.size hn
      have hd1 : D.size = 1 := by rw [← hD]; rfl
      have hlim : ¬ 9223372036854775807 < D.size + S.size := by omega
      clear hd1
      clear hr hD
      go_wp2
      go_round
      case rel => exact ⟨q, D ++ S, by omega, rfl, rfl, HR.out⟩
      case measure => simp [intOf]; omega
/-- Decimal of the reference -/
theorem rdec_any (n : Int) (h0 : -9223372036854775808 ≤ n) (h1 : n ≤ 9223372036854775807) (w : World) :
    Calls Tryd.prog 83 #[.int .i64 n] w fun e w' => e = .returned (.string ⟨(Lib.itoa n).toArray⟩) ∧ w = w' := by
  by_cases hm : n = -9223372036854775808
  · subst hm
    have HR : Hid ((⟨(Lib.itoa (-9223372036854775808)).toArray⟩ : ByteArray) = ⟨#[45,57,50,50,51,51,55,50,48,51,54,56,53,52,55,55,53,56,48,56]⟩) := Lib.hid (by
      have : Lib.itoa (-9223372036854775808) = [45,57,50,50,51,51,55,50,48,51,54,56,53,52,55,55,53,56,48,56] := by
        unfold Lib.itoa
        rw [if_pos (by decide), show (-9223372036854775808 : Int).natAbs = 9223372036854775808 by decide]
        rw [Lib.decDigits_eq, Lib.nDigits_unique 18 _ (by decide) (by decide)]
        decide +kernel
      rw [this])
    go_enter Tryd.func83, Tryd.ntmps83
    go_wp2
    go_ret
    exact ⟨by rw [HR.out]; rfl, rfl⟩
  · by_cases hn : n < 0
    · have c0 : (n == -9223372036854775808) = false := by rw [beq_eq_false_iff_ne]; exact hm
      have e1 : IntKind.i64.wrap (-n) = ((n.natAbs : Nat) : Int) := (IntWalk.i64_in _ ⟨by omega, by omega⟩).trans (by omega)
      have HD := rdec_nat n.natAbs (by omega) w
      obtain ⟨D, hD⟩ : ∃ D, (⟨(Lib.decDigits n.natAbs).toArray⟩ : ByteArray) = D := ⟨_, rfl⟩
      have HR : Hid ((⟨#[45]⟩ : ByteArray) ++ D = ⟨(Lib.itoa n).toArray⟩) := Lib.hid (by
        rw [← hD]
        have : Lib.itoa n = 45 :: Lib.decDigits n.natAbs := by unfold Lib.itoa; rw [if_pos hn]
        rw [this]
        apply ByteArray.ext
        simp)
      have hz : D.size ≤ 20 := by
        rw [← hD]
        have := dec_len n.natAbs 18 (by omega)
        show (Lib.decDigits n.natAbs).toArray.size ≤ 20
        simp; omega
      have hlim : ¬ 9223372036854775807 < 1 + D.size := by omega
      rw [hD] at HD
      clear hD
      obtain ⟨m, hm2⟩ : ∃ m : Nat, n.natAbs = m := ⟨_, rfl⟩
      rw [hm2] at e1 HD
      clear hm2
      go_enter Tryd.func83, Tryd.ntmps83
      go_wp2_with (go_at_call 83; refine HD.mono ?_; rintro e w1 ⟨rfl, rfl⟩)
      go_ret
      exact ⟨by rw [HR.out]; rfl, rfl⟩
    · have HD := rdec_nat n.toNat (by omega) w
      have e : Lib.itoa n = Lib.decDigits n.toNat := by unfold Lib.itoa; rw [if_neg hn]
      rw [show ((n.toNat : Nat) : Int) = n by omega] at HD
      rw [e]
      exact HD
end
section
open Go.RowKit Go.Maps
set_option linter.unusedVariables false

/-- block b is a map of bools in which just the keys l are true, and no others are -/
def MetG {α : Type} [DecidableEq α] (mk : α → Lit) (P : Program) (k e : TypeId) (w : World) (b : Nat) (l : List α) : Prop :=
  ∃ (D : DataW Unit) (n : Nat), n ≤ l.length ∧ w.ownsMap P k (plainElem P e) b n D ∧ (∀ x, has D (mk x) = decide (x ∈ l)) ∧ (∀ x, x ∈ l → ∀ z, D.atKey (mk x) z = .lit (.bool true)) ∧ (l.Nodup → size D = l.length)
section
variable {α : Type} [DecidableEq α] {mk : α → Lit} {P : Program} {k e : TypeId} {w : World} {b : Nat} {l : List α}
theorem MetG.made (w : World) : MetG mk P k e (w.alloc (.map #[] 0)) w.heap.size [] :=
  ⟨.map [], 0, by simp, World.ownsMap_made _ _ _ _, fun x => by simp [has], fun x h => by simp at h, fun _ => rfl⟩
theorem MetG.lt (h : MetG mk P k e w b l) : b < w.heap.size := by obtain ⟨D, n, _, h, _⟩ := h; exact h.lt
theorem MetG.kept {w' : World} {row : Option Nat} (h : MetG mk P k e w b l) (hg : w.grownBy w' row) (hne : some b ≠ row) : MetG mk P k e w' b l := by
  obtain ⟨D, n, hn, h, r⟩ := h
  exact ⟨D, n, hn, h.kept hg hne, r⟩
theorem MetG.same {w' : World} (h : MetG mk P k e w b l) (he : w'.heap[b]? = w.heap[b]?) : MetG mk P k e w' b l := by
  obtain ⟨D, n, hn, ⟨es, clock, hb, r'⟩, r⟩ := h
  exact ⟨D, n, hn, ⟨es, clock, he.trans hb, r'⟩, r⟩
theorem MetG.ext {w' : World} (h : MetG mk P k e w b l) (he : Ext w w') : MetG mk P k e w' b l := h.same (he.block h.lt)

theorem MetG.look (h : MetG mk P k e w b l) (K : Keyed P k) {t : TypeId} (ht : P.underlying t = some (.map k e)) (he : P.underlying e = some .bool) (hz : (zeroValue e).run P w = .ok (.bool false) w) {key : Value} {x : α} (hkey : keyOf P k key = some (mk x)) :
    (Instr.lookup t (.map (some b)) key false).run P w = .ok (.bool (decide (x ∈ l))) w := by
  obtain ⟨D, n, hn, hown, hh, ht', hs⟩ := h
  obtain ⟨v, ps, hrun, hv⟩ := hown.lookup K ht hz (plainElem_bool he false) hkey
  have hd : D.atKey (mk x) (.lit (.bool false)) = .lit (.bool (decide (x ∈ l))) := by
    by_cases hx : x ∈ l
    · rw [ht' x hx, decide_eq_true hx]
    · rw [atKey_of_not_has (by rw [hh x, decide_eq_false hx]), decide_eq_false hx]
  rw [hd] at hv
  unfold plainElem at hv
  rw [he] at hv
  cases v <;> simp at hv
  rw [hrun, hv.1]
theorem MetG.len (h : MetG mk P k e w b l) {t : TypeId} (ht : P.underlying t = some (.map k e)) (hl : l.Nodup) (ty : TypeId) : (Builtin.len_ #[t] ty #[.map (some b)]).run P w = .ok (.int .i64 l.length) w := by
  obtain ⟨D, n, hn, hown, hh, ht', hs⟩ := h
  rw [hown.len ht ty, hs hl]
theorem MetG.store (h : MetG mk P k e w b l) (K : Keyed P k) {t : TypeId} (ht : P.underlying t = some (.map k e)) (he : P.underlying e = some .bool) (hn : l.length < 9223372036854775807) (hm : ∀ x y, mk x = mk y → x = y) {key : Value} {x : α} (hk : WideAt.IsKeyLit (mk x)) (hkey : keyOf P k key = some (mk x)) :
    ∃ w', (Instr.mapUpdate t (.map (some b)) key (.bool true)).run P w = .ok () w' ∧ MetG mk P k e w' b (l ++ [x]) ∧ w.grownBy w' (some b) := by
  obtain ⟨D, n, hnl, hown, hh, ht', hs⟩ := h
  have hT := hown.tidy K
  obtain ⟨w', hrun, hown', hg⟩ := hown.update K ht (Nat.lt_of_le_of_lt hnl hn) hkey (plainElem_bool he true)
  refine ⟨w', hrun, ⟨_, n + 1, by simp; omega, hown', fun y => ?_, fun y hy z => ?_, fun hd => ?_⟩, hg⟩
  · by_cases hy : y = x
    · subst hy; rw [has_put_same hT.isMap hk]; simp
    · rw [has_put_other (fun e => hy (hm _ _ e)), hh]; simp [hy]
  · by_cases hyx : y = x
    · subst hyx; exact atKey_put_same hT.isMap hk _ _
    · rw [atKey_put_other (fun e => hyx (hm _ _ e))]
      exact ht' y (by simpa [hyx] using hy) z
  · have hd' := List.nodup_append.1 hd
    have hx : x ∉ l := fun hx => hd'.2.2 x hx x (by simp) rfl
    rw [size_put hT, hh, decide_eq_false hx, hs hd'.1]
    simp
/-- the look-up at the operation -/
theorem wpList_look_met {w : World} {ops : Array Oper} {rest : List Oper} {o : Oper} {a : Act} {Q : Exit → Act → World → Prop} (hg : o.guard = none) (m x : Operand) (t : TypeId) (hop : o.op = Op.lookup t m x false)
    {b : Nat} {l : List α} (hM : MetG mk P k e w b l) (K : Keyed P k) (ht : P.underlying t = some (.map k e)) (he : P.underlying e = some .bool) (hz : ∀ w, (zeroValue e).run P w = .ok (.bool false) w) (hm : a.eval m = .map (some b)) (key : Value) (y : α) (hx : a.eval x = key) (hkey : keyOf P k key = some (mk y))
    (r : Bool) (hr : decide (y ∈ l) = r) (hK : wpList P ops Q rest (a.put o.dst (.bool r)) w) : wpList P ops Q (o :: rest) a w := by
  refine wpList_plain hg fun K' hK' => ?_
  have hrun := hM.look K ht he (hz w) hkey
  rw [hr] at hrun
  unfold Oper.wp
  simp [execOp, hop, hm, hx, hrun, Result.andThen]
  exact hK' _ _ hK
/-- the store at the operation -/
theorem wpList_store_met {w : World} {ops : Array Oper} {rest : List Oper} {o : Oper} {a : Act} {Q : Exit → Act → World → Prop} (hg : o.guard = none) (m x v : Operand) (t : TypeId) (hop : o.op = Op.mapUpdate t m x v)
    {b : Nat} {l : List α} (hM : MetG mk P k e w b l) (K : Keyed P k) (ht : P.underlying t = some (.map k e)) (he : P.underlying e = some .bool) (hn : l.length < 9223372036854775807) (hinj : ∀ x y, mk x = mk y → x = y) (hm : a.eval m = .map (some b)) (key : Value) (y : α) (hx : a.eval x = key) (hv : a.eval v = .bool true) (hk : WideAt.IsKeyLit (mk y)) (hkey : keyOf P k key = some (mk y))
    (hK : ∀ w', MetG mk P k e w' b (l ++ [y]) → w.grownBy w' (some b) → wpList P ops Q rest (a.put o.dst undef) w') : wpList P ops Q (o :: rest) a w := by
  refine wpList_plain hg fun K' hK' => ?_
  obtain ⟨w', hrun, h1, h2⟩ := hM.store K ht he hn hinj hk hkey
  unfold Oper.wp
  simp [execOp, hop, hm, hx, hv, hrun, Result.andThen]
  exact hK' _ _ (hK w' h1 h2)
end
end
end Go.Proofs.YtepgpejdnlejnaaDoor
