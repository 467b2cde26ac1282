/- The bytes of a text as they are written: item.escaped, an iterator. -/
import Derived.Test.YtepgpejdnlejnaaDoorItB
import Derived.Test.YtepgpejdnlejnaaDoorRangeL
import Derived.Stop.RegionWithIn
import Derived.Sort.QuietIn
import Derived.Laws.Runes
namespace Go.Proofs.YtepgpejdnlejnaaDoor
open Go.RowKit
set_option linter.unusedVariables false
set_option linter.unusedSimpArgs false
set_option linter.unusedSectionVars false
set_option maxRecDepth 100000
attribute [local go_sem] Oper.semAt_some

def hexT : List UInt8 := [48, 49, 50, 51, 52, 53, 54, 55, 56, 57, 97, 98, 99, 100, 101, 102]
def hexd (n : Nat) : UInt8 := hexT.getD n 0
theorem bits15 : ∀ n : Fin 256, bits .and .u8 (n.val : Int) 15 = ((n.val % 16 : Nat) : Int) := by decide +kernel
theorem run_and15 (n : Nat) (h : n < 256) (w : World) : (binOp .and 5 (.int .u8 (n : Int)) (.int .u8 15)).run Tryd.prog w = .ok (.int .u8 ((n % 16 : Nat) : Int)) w := by
  rw [binOp_and, intBits_and, bits15 ⟨n, h⟩]
  rfl
theorem run_shr4 (n : Nat) (w : World) : (binOp .shr 5 (.int .u8 (n : Int)) (.int .u64 4)).run Tryd.prog w = .ok (.int .u8 ((n / 16 : Nat) : Int)) w := by
  rw [binOp_shr, shift_shr_u8 _ _ _ (by decide) (by decide)]
  simp
def hexS : ByteArray := ⟨#[48, 49, 50, 51, 52, 53, 54, 55, 56, 57, 97, 98, 99, 100, 101, 102]⟩
theorem hexN : ∀ n : Fin 16, byteN hexS n.val = ((hexd n.val).toNat : Int) := by decide +kernel
theorem hexE : ∀ n : Fin 16, (Utf8.encode ((hexd n.val).toNat : Int)).data = #[hexd n.val] := by decide +kernel
theorem run_hex (n : Nat) (h : n < 16) (w : World) : (Instr.index 9 (.string hexS) (.int .u8 (n : Int))).run Tryd.prog w = .ok (.int .u8 ((hexd n).toNat : Int)) w := by
  rw [run_index_string (P := Tryd.prog) (w := w) 9 hexS .u8 (n : Int) Tryd.underlying9, dif_pos ⟨by omega, by show (n : Int) < 16; omega⟩]
  have := hexN ⟨n, h⟩
  unfold byteN at this
  rw [dif_pos (show n < hexS.size from h)] at this
  rw [← this]
  rfl
theorem run_chr (n : Nat) (h : n < 16) (w : World) : (convert 5 9 (.int .u8 ((hexd n).toNat : Int))).run Tryd.prog w = .ok (.string ⟨#[hexd n]⟩) w := by
  rw [run_convert_int_string w 5 9 .u8 _ (by rw [Tryd.underlying5]; rfl) Tryd.underlying9]
  have := hexE ⟨n, h⟩
  rw [show Utf8.encode ((hexd n).toNat : Int) = ⟨#[hexd n]⟩ from ByteArray.ext this]
def escL (c : UInt8) : List UInt8 := if c = 34 ∨ c = 92 then [92, c] else if c < 32 ∨ 126 < c then [92, 120, hexd (c.toNat / 16), hexd (c.toNat % 16)] else [c]
def byteU (s : ByteArray) (i : Nat) : UInt8 := s.data.toList.getD i 0
def escS (s : ByteArray) (i : Nat) : ByteArray := ⟨(escL (byteU s i)).toArray⟩
theorem byteU_N (s : ByteArray) (i : Nat) (h : i < s.size) : byteN s i = ((byteU s i).toNat : Int) := by
  unfold byteN byteU
  rw [dif_pos h]
  have h' : i < s.data.toList.length := by simpa using h
  rw [List.getD_eq_getElem?_getD, List.getElem?_eq_getElem h']
  simp
  rfl
theorem one_extract (s : ByteArray) (i : Nat) (h : i < s.size) : s.extract i (i + 1) = ⟨#[byteU s i]⟩ := by
  apply ByteArray.ext
  have h' : i < s.data.size := h
  have h2 : i < s.data.toList.length := by simpa using h'
  simp only [ByteArray.data_extract, byteU]
  apply Array.ext'
  rw [Array.toList_extract, List.extract_eq_take_drop, show i + 1 - i = 1 from by omega, List.drop_eq_getElem_cons h2]
  simp [List.getD_eq_getElem?_getD, h']
  rw [Array.getElem?_eq_getElem h']
  rfl
theorem str_one (s : ByteArray) (k : Nat) (hk : k < s.size) (w : World) : (Instr.slice 9 (.string s) (some (.int .i64 (k : Int))) (some (.int .i64 ((k : Int) + 1))) none).run Tryd.prog w = .ok (.string ⟨#[byteU s k]⟩) w := by
  rw [run_slice_string (P := Tryd.prog) w 9 s .i64 .i64 (k : Int) ((k : Int) + 1) Tryd.underlying9 (by omega) (by omega) (by omega)]
  rw [show ((k : Int)).toNat = k from rfl, show ((k : Int) + 1).toNat = k + 1 from by omega, one_extract s k hk]
theorem escL_plain {c : UInt8} (h1 : ¬ c = 34) (h2 : ¬ c = 92) (h3 : ¬ c.toNat < 32) (h4 : ¬ 126 < c.toNat) : escL c = [c] := by
  unfold escL
  rw [if_neg (by simp [h1, h2]), if_neg]
  rintro (h | h)
  · exact h3 (UInt8.lt_iff_toNat_lt.1 h)
  · exact h4 (UInt8.lt_iff_toNat_lt.1 h)
theorem escL_hex {c : UInt8} (h1 : ¬ c = 34) (h2 : ¬ c = 92) (h3 : c.toNat < 32 ∨ 126 < c.toNat) : escL c = [92, 120, hexd (c.toNat / 16), hexd (c.toNat % 16)] := by
  unfold escL
  rw [if_neg (by simp [h1, h2]), if_pos]
  rcases h3 with h | h
  · exact .inl (UInt8.lt_iff_toNat_lt.2 h)
  · exact .inr (UInt8.lt_iff_toNat_lt.2 h)
theorem yield_cases {e : Ending} {A B : Prop} {C : List PanicEntry → Prop} (h : (e = .returned (.bool true) ∧ A) ∨ (e = .returned (.bool false) ∧ B) ∨ ∃ ch, e = .panicked ch ∧ C ch) :
    (∃ ch, e = .panicked ch ∧ C ch) ∨ ∃ t, e = .returned (.bool t) ∧ (t = true ∧ A ∨ t = false ∧ B) := by
  rcases h with ⟨h, a⟩ | ⟨h, b⟩ | h
  · exact .inr ⟨true, h, .inl ⟨rfl, a⟩⟩
  · exact .inr ⟨false, h, .inr ⟨rfl, b⟩⟩
  · exact .inl h
theorem escaped_any (s : ByteArray) (w : World) :
    Calls Tryd.prog 99 #[.string s] w fun e w' => e = .returned (.func (.func 113) #[] #[.pointer (some ⟨w.heap.size, 0, none⟩)]) ∧ w' = w.alloc (.cells #[.string s] 9) := by
  go_enter Tryd.func99, Tryd.ntmps99
  go_wp2
  go_ret
  exact ⟨rfl, rfl⟩
set_option maxHeartbeats 4000000 in
theorem escaped_seq (s : ByteArray) (c : Nat) (hp : s.size ≤ 140737488355328) :
    SeqP Tryd.prog 113 #[.pointer (some ⟨c, 0, none⟩)] (fun i => #[.string (escS s i)]) s.size (fun A => A.cell? ⟨c, 0, none⟩ = some (.string s)) := by
  intro l J Jx Jp W hJ hJx hK hY h0
  have hc0 := hK 0 W h0
  refine callsIn_of_wp Tryd.func113 rfl trivial ?_ rfl
  simp only [Tryd.ntmps113, List.size_toArray, List.length_cons, List.length_nil, Nat.reduceAdd, Nat.reduceSub, Array.replicate_succ, Array.replicate_zero, List.push_toArray, List.append_toArray, List.nil_append, List.cons_append]
  gi_wp2
  gi_loopw [8, 3, 4, 5, 19, 28] (fun i _ _ _ _ _ wr => ∃ k : Nat, k ≤ s.size ∧ i = .int .i64 k ∧ J k wr) (fun i _ _ _ _ _ _ => s.size - (intOf i).toNat)
  case atStart => exact ⟨0, by omega, rfl, h0⟩
  case round =>
    obtain ⟨k, hk, rfl, hj⟩ := hrel
    by_cases hlt : k < s.size
    · have hc := hK _ _ hj
      have c1 : (k : Int) < s.size := by omega
      have hw2 : IntKind.i64.wrap ((k : Int) + 1) = k + 1 := IntWalk.i64_in _ ⟨by omega, by omega⟩
      have hi0 : ∀ w, (Instr.index 9 (.string s) (.int .i64 k)).run Tryd.prog w = .ok (.int .u8 (byteN s k)) w := fun w => str_index s k hlt w
      have hsl := fun w => str_one s k hlt w
      rw [byteU_N s k hlt] at hi0
      obtain ⟨u, hu⟩ : ∃ u, byteU s k = u := ⟨_, rfl⟩
      have HU := Lib.hid hu
      rw [hu] at hsl hi0
      clear hu
      by_cases q1 : u = 34
      · subst q1
        have HE : escS s k = ⟨#[92]⟩ ++ ⟨#[34]⟩ := by unfold escS; rw [HU.out]; rfl
        obtain ⟨fn, tmps, assign, body, hy, hR⟩ := hY k wr hj hlt
        rw [HE] at hy
        gi_wp2_with (refine ⟨rfl, ?_⟩; refine hR.mono ?_; intro e W3 h3; rcases yield_cases h3 with ⟨ch, rfl, hp3⟩ | ⟨t, rfl, h4⟩; exact ⟨rfl, .inr ⟨k, ch, hlt, rfl, hp3⟩⟩; clear h3; rcases h4 with ⟨rfl, hj3⟩ | ⟨rfl, hx3⟩)
        all_goals first
          | (go_roundw
             case rel => exact ⟨k + 1, by omega, by go_num, hj3⟩
             case measure => simp [intOf, hw2]; omega)
          | (refine bodyPost_ret (results_none rfl _ _ _) rfl ?_
             exact .inl ⟨⟨_, rfl⟩, .inr ⟨k, hlt, hx3⟩⟩)
      · by_cases q2 : u = 92
        · subst q2
          have HE : escS s k = ⟨#[92]⟩ ++ ⟨#[92]⟩ := by unfold escS; rw [HU.out]; rfl
          obtain ⟨fn, tmps, assign, body, hy, hR⟩ := hY k wr hj hlt
          rw [HE] at hy
          gi_wp2_with (refine ⟨rfl, ?_⟩; refine hR.mono ?_; intro e W3 h3; rcases yield_cases h3 with ⟨ch, rfl, hp3⟩ | ⟨t, rfl, h4⟩; exact ⟨rfl, .inr ⟨k, ch, hlt, rfl, hp3⟩⟩; clear h3; rcases h4 with ⟨rfl, hj3⟩ | ⟨rfl, hx3⟩)
          all_goals first
            | (go_roundw
               case rel => exact ⟨k + 1, by omega, by go_num, hj3⟩
               case measure => simp [intOf, hw2]; omega)
            | (refine bodyPost_ret (results_none rfl _ _ _) rfl ?_
               exact .inl ⟨⟨_, rfl⟩, .inr ⟨k, hlt, hx3⟩⟩)
        · have n1 : ((u.toNat : Int) == 34) = false := by
            simp only [beq_eq_false_iff_ne, ne_eq]
            intro e
            exact q1 (UInt8.toNat_inj.1 (by simpa using (by omega : u.toNat = 34)))
          have n2 : ((u.toNat : Int) == 92) = false := by
            simp only [beq_eq_false_iff_ne, ne_eq]
            intro e
            exact q2 (UInt8.toNat_inj.1 (by simpa using (by omega : u.toNat = 92)))
          by_cases q3 : u.toNat < 32
          · have c3 : (u.toNat : Int) < 32 := by omega
            have HQ := Lib.hid (And.intro q1 q2)
            have HE : escS s k = ⟨#[92, 120]⟩ ++ ⟨#[hexd (u.toNat / 16)]⟩ ++ ⟨#[hexd (u.toNat % 16)]⟩ := by unfold escS; rw [HU.out, escL_hex HQ.out.1 HQ.out.2 (by omega)]; rfl
            have h256 : u.toNat < 256 := u.toNat_lt
            have z1 := bits15 ⟨u.toNat, h256⟩
            simp only at z1
            have z3 : ∀ w, (Instr.index 9 (.string ⟨#[48, 49, 50, 51, 52, 53, 54, 55, 56, 57, 97, 98, 99, 100, 101, 102]⟩) (.int .u8 ((u.toNat : Int) / 16))).run Tryd.prog w = .ok (.int .u8 ((hexd (u.toNat / 16)).toNat : Int)) w := fun w => by
              have := run_hex (u.toNat / 16) (by omega) w
              rwa [Int.natCast_ediv] at this
            have z4 : ∀ w, (Instr.index 9 (.string ⟨#[48, 49, 50, 51, 52, 53, 54, 55, 56, 57, 97, 98, 99, 100, 101, 102]⟩) (.int .u8 ((u.toNat % 16 : Nat) : Int))).run Tryd.prog w = .ok (.int .u8 ((hexd (u.toNat % 16)).toNat : Int)) w := fun w => run_hex _ (by omega) w
            have z5 := fun w => run_chr (u.toNat / 16) (by omega) w
            have z6 := fun w => run_chr (u.toNat % 16) (by omega) w
            clear q1 q2 q3
            generalize hexd (u.toNat / 16) = d1 at *
            generalize hexd (u.toNat % 16) = d2 at *
            generalize u.toNat % 16 = m2 at *
            have hYn := fun n => hY k (wr.drewN n) (hJ _ _ _ hj ((Ext.refl wr).drewN n)) hlt
            rw [HE] at hYn
            gi_wp2
            gi_quiet (fail)
            obtain ⟨fn, tmps, assign, body, hy, hR⟩ := hYn nq
            gi_wp2_with (refine ⟨rfl, ?_⟩; refine hR.mono ?_; intro e W3 h3; rcases yield_cases h3 with ⟨ch, rfl, hp3⟩ | ⟨t, rfl, h4⟩; exact ⟨rfl, .inr ⟨k, ch, hlt, rfl, hp3⟩⟩; clear h3; rcases h4 with ⟨rfl, hj3⟩ | ⟨rfl, hx3⟩)
            all_goals first
              | (go_roundw
                 case rel => exact ⟨k + 1, by omega, by go_num, hj3⟩
                 case measure => simp [intOf, hw2]; omega)
              | (refine bodyPost_ret (results_none rfl _ _ _) rfl ?_
                 exact .inl ⟨⟨_, rfl⟩, .inr ⟨k, hlt, hx3⟩⟩)
          · by_cases q4 : 126 < u.toNat
            · have c3 : decide ((u.toNat : Int) < 32) = false := decide_eq_false (by omega)
              have c4 : (126 : Int) < (u.toNat : Int) := by omega
              have HQ := Lib.hid (And.intro q1 q2)
              have HE : escS s k = ⟨#[92, 120]⟩ ++ ⟨#[hexd (u.toNat / 16)]⟩ ++ ⟨#[hexd (u.toNat % 16)]⟩ := by unfold escS; rw [HU.out, escL_hex HQ.out.1 HQ.out.2 (by omega)]; rfl
              have h256 : u.toNat < 256 := u.toNat_lt
              have z1 := bits15 ⟨u.toNat, h256⟩
              simp only at z1
              have z3 : ∀ w, (Instr.index 9 (.string ⟨#[48, 49, 50, 51, 52, 53, 54, 55, 56, 57, 97, 98, 99, 100, 101, 102]⟩) (.int .u8 ((u.toNat : Int) / 16))).run Tryd.prog w = .ok (.int .u8 ((hexd (u.toNat / 16)).toNat : Int)) w := fun w => by
                have := run_hex (u.toNat / 16) (by omega) w
                rwa [Int.natCast_ediv] at this
              have z4 : ∀ w, (Instr.index 9 (.string ⟨#[48, 49, 50, 51, 52, 53, 54, 55, 56, 57, 97, 98, 99, 100, 101, 102]⟩) (.int .u8 ((u.toNat % 16 : Nat) : Int))).run Tryd.prog w = .ok (.int .u8 ((hexd (u.toNat % 16)).toNat : Int)) w := fun w => run_hex _ (by omega) w
              have z5 := fun w => run_chr (u.toNat / 16) (by omega) w
              have z6 := fun w => run_chr (u.toNat % 16) (by omega) w
              clear q1 q2 q3 q4
              generalize hexd (u.toNat / 16) = d1 at *
              generalize hexd (u.toNat % 16) = d2 at *
              generalize u.toNat % 16 = m2 at *
              have hYn := fun n => hY k (wr.drewN n) (hJ _ _ _ hj ((Ext.refl wr).drewN n)) hlt
              rw [HE] at hYn
              gi_wp2
              gi_quiet (fail)
              obtain ⟨fn, tmps, assign, body, hy, hR⟩ := hYn nq
              gi_wp2_with (refine ⟨rfl, ?_⟩; refine hR.mono ?_; intro e W3 h3; rcases yield_cases h3 with ⟨ch, rfl, hp3⟩ | ⟨t, rfl, h4⟩; exact ⟨rfl, .inr ⟨k, ch, hlt, rfl, hp3⟩⟩; clear h3; rcases h4 with ⟨rfl, hj3⟩ | ⟨rfl, hx3⟩)
              all_goals first
                | (go_roundw
                   case rel => exact ⟨k + 1, by omega, by go_num, hj3⟩
                   case measure => simp [intOf, hw2]; omega)
                | (refine bodyPost_ret (results_none rfl _ _ _) rfl ?_
                   exact .inl ⟨⟨_, rfl⟩, .inr ⟨k, hlt, hx3⟩⟩)
            · have c3 : decide ((u.toNat : Int) < 32) = false := decide_eq_false (by omega)
              have c4 : decide ((126 : Int) < (u.toNat : Int)) = false := decide_eq_false (by omega)
              have HQ := Lib.hid (And.intro (And.intro q1 q2) (And.intro q3 q4))
              clear q1 q2 q3 q4
              have HE : escS s k = ⟨#[u]⟩ := by unfold escS; rw [HU.out, escL_plain HQ.out.1.1 HQ.out.1.2 HQ.out.2.1 HQ.out.2.2]
              obtain ⟨fn, tmps, assign, body, hy, hR⟩ := hY k wr hj hlt
              rw [HE] at hy
              gi_wp2_with (refine ⟨rfl, ?_⟩; refine hR.mono ?_; intro e W3 h3; rcases yield_cases h3 with ⟨ch, rfl, hp3⟩ | ⟨t, rfl, h4⟩; exact ⟨rfl, .inr ⟨k, ch, hlt, rfl, hp3⟩⟩; clear h3; rcases h4 with ⟨rfl, hj3⟩ | ⟨rfl, hx3⟩)
              all_goals first
                | (go_roundw
                   case rel => exact ⟨k + 1, by omega, by go_num, hj3⟩
                   case measure => simp [intOf, hw2]; omega)
                | (refine bodyPost_ret (results_none rfl _ _ _) rfl ?_
                   exact .inl ⟨⟨_, rfl⟩, .inr ⟨k, hlt, hx3⟩⟩)
    · obtain rfl : k = s.size := by omega
      gi_wp2
      go_end0
      exact .inl ⟨⟨_, rfl⟩, .inl hj⟩
end Go.Proofs.YtepgpejdnlejnaaDoor
