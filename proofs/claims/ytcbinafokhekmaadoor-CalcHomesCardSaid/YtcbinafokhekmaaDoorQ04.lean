/- ItT; ItS; ItC; ItU; ItD (merged by group.py) -/
import Derived.Test.YtcbinafokhekmaaDoorQ02
import Derived.Test.YtcbinafokhekmaaDoorQ03
import Derived.Stop.RegionWithIn
import Derived.Sort.QuietIn
import Derived.Laws.Runes
import Derived.Test.YtcbinafokhekmaaDoorShelf
import Derived.Deep.LoopGhost
import Derived.Laws.Externs
import Derived.Shelf.Abstract
import Derived.WalkSmall
import Derived.Deep.RegionHeld3
import Derived.Laws.EntriesVeiled
namespace Go.Proofs.YtcbinafokhekmaaDoor
section
open Go.RowKit
set_option linter.unusedVariables false
set_option maxRecDepth 20000
set_option linter.unusedSimpArgs false
set_option linter.unusedSectionVars false
set_option maxRecDepth 100000
attribute [local go_sem] Oper.semAt_some

def hexT : List UInt8 := [48, 49, 50, 51, 52, 53, 54, 55, 56, 57, 97, 98, 99, 100, 101, 102]
def hexd (n : Nat) : UInt8 := hexT.getD n 0
theorem bits15 : ∀ n : Fin 256, bits .and .u8 (n.val : Int) 15 = ((n.val % 16 : Nat) : Int) := by decide +kernel
theorem run_and15 (n : Nat) (h : n < 256) (w : World) : (binOp .and 5 (.int .u8 (n : Int)) (.int .u8 15)).run Tryd.prog w = .ok (.int .u8 ((n % 16 : Nat) : Int)) w := by
  rw [binOp_and, intBits_and, bits15 ⟨n, h⟩]
  rfl
theorem run_shr4 (n : Nat) (w : World) : (binOp .shr 5 (.int .u8 (n : Int)) (.int .u64 4)).run Tryd.prog w = .ok (.int .u8 ((n / 16 : Nat) : Int)) w := by
  rw [binOp_shr, shift_shr_u8 _ _ _ (by decide) (by decide)]
  simp
def hexS : ByteArray := ⟨#[48, 49, 50, 51, 52, 53, 54, 55, 56, 57, 97, 98, 99, 100, 101, 102]⟩
theorem hexN : ∀ n : Fin 16, byteN hexS n.val = ((hexd n.val).toNat : Int) := by decide +kernel
theorem hexE : ∀ n : Fin 16, (Utf8.encode ((hexd n.val).toNat : Int)).data = #[hexd n.val] := by decide +kernel
theorem run_hex (n : Nat) (h : n < 16) (w : World) : (Instr.index 9 (.string hexS) (.int .u8 (n : Int))).run Tryd.prog w = .ok (.int .u8 ((hexd n).toNat : Int)) w := by
  rw [run_index_string (P := Tryd.prog) (w := w) 9 hexS .u8 (n : Int) Tryd.underlying9, dif_pos ⟨by omega, by show (n : Int) < 16; omega⟩]
  have := hexN ⟨n, h⟩
  unfold byteN at this
  rw [dif_pos (show n < hexS.size from h)] at this
  rw [← this]
  rfl
theorem run_chr (n : Nat) (h : n < 16) (w : World) : (convert 5 9 (.int .u8 ((hexd n).toNat : Int))).run Tryd.prog w = .ok (.string ⟨#[hexd n]⟩) w := by
  rw [run_convert_int_string w 5 9 .u8 _ (by rw [Tryd.underlying5]; rfl) Tryd.underlying9]
  have := hexE ⟨n, h⟩
  rw [show Utf8.encode ((hexd n).toNat : Int) = ⟨#[hexd n]⟩ from ByteArray.ext this]
def escL (c : UInt8) : List UInt8 := if c = 34 ∨ c = 92 then [92, c] else if c < 32 ∨ 126 < c then [92, 120, hexd (c.toNat / 16), hexd (c.toNat % 16)] else [c]
def byteU (s : ByteArray) (i : Nat) : UInt8 := s.data.toList.getD i 0
def escS (s : ByteArray) (i : Nat) : ByteArray := ⟨(escL (byteU s i)).toArray⟩
theorem byteU_N (s : ByteArray) (i : Nat) (h : i < s.size) : byteN s i = ((byteU s i).toNat : Int) := by
  unfold byteN byteU
  rw [dif_pos h]
  have h' : i < s.data.toList.length := by simpa using h
  rw [List.getD_eq_getElem?_getD, List.getElem?_eq_getElem h']
  simp
  rfl
theorem one_extract (s : ByteArray) (i : Nat) (h : i < s.size) : s.extract i (i + 1) = ⟨#[byteU s i]⟩ := by
  apply ByteArray.ext
  have h' : i < s.data.size := h
  have h2 : i < s.data.toList.length := by simpa using h'
  simp only [ByteArray.data_extract, byteU]
  apply Array.ext'
  rw [Array.toList_extract, List.extract_eq_take_drop, show i + 1 - i = 1 from by omega, List.drop_eq_getElem_cons h2]
  simp [List.getD_eq_getElem?_getD, h']
  rw [Array.getElem?_eq_getElem h']
  rfl
theorem str_one (s : ByteArray) (k : Nat) (hk : k < s.size) (w : World) : (Instr.slice 9 (.string s) (some (.int .i64 (k : Int))) (some (.int .i64 ((k : Int) + 1))) none).run Tryd.prog w = .ok (.string ⟨#[byteU s k]⟩) w := by
  rw [run_slice_string (P := Tryd.prog) w 9 s .i64 .i64 (k : Int) ((k : Int) + 1) Tryd.underlying9 (by omega) (by omega) (by omega)]
  rw [show ((k : Int)).toNat = k from rfl, show ((k : Int) + 1).toNat = k + 1 from by omega, one_extract s k hk]
theorem escL_plain {c : UInt8} (h1 : ¬ c = 34) (h2 : ¬ c = 92) (h3 : ¬ c.toNat < 32) (h4 : ¬ 126 < c.toNat) : escL c = [c] := by
  unfold escL
  rw [if_neg (by simp [h1, h2]), if_neg]
  rintro (h | h)
  · exact h3 (UInt8.lt_iff_toNat_lt.1 h)
  · exact h4 (UInt8.lt_iff_toNat_lt.1 h)
theorem escL_hex {c : UInt8} (h1 : ¬ c = 34) (h2 : ¬ c = 92) (h3 : c.toNat < 32 ∨ 126 < c.toNat) : escL c = [92, 120, hexd (c.toNat / 16), hexd (c.toNat % 16)] := by
  unfold escL
  rw [if_neg (by simp [h1, h2]), if_pos]
  rcases h3 with h | h
  · exact .inl (UInt8.lt_iff_toNat_lt.2 h)
  · exact .inr (UInt8.lt_iff_toNat_lt.2 h)
theorem yield_cases {e : Ending} {A B : Prop} {C : List PanicEntry → Prop} (h : (e = .returned (.bool true) ∧ A) ∨ (e = .returned (.bool false) ∧ B) ∨ ∃ ch, e = .panicked ch ∧ C ch) :
    (∃ ch, e = .panicked ch ∧ C ch) ∨ ∃ t, e = .returned (.bool t) ∧ (t = true ∧ A ∨ t = false ∧ B) := by
  rcases h with ⟨h, a⟩ | ⟨h, b⟩ | h
  · exact .inr ⟨true, h, .inl ⟨rfl, a⟩⟩
  · exact .inr ⟨false, h, .inr ⟨rfl, b⟩⟩
  · exact .inl h
theorem escaped_any (s : ByteArray) (w : World) :
    Calls Tryd.prog 69 #[.string s] w fun e w' => e = .returned (.func (.func 81) #[] #[.pointer (some ⟨w.heap.size, 0, none⟩)]) ∧ w' = w.alloc (.cells #[.string s] 9) := by
  go_enter Tryd.func69, Tryd.ntmps69
  go_wp2
  go_ret
  exact ⟨rfl, rfl⟩
set_option maxHeartbeats 4000000 in
theorem escaped_seq (s : ByteArray) (c : Nat) (hp : s.size ≤ 140737488355328) :
    SeqP Tryd.prog 81 #[.pointer (some ⟨c, 0, none⟩)] (fun i => #[.string (escS s i)]) s.size (fun A => A.cell? ⟨c, 0, none⟩ = some (.string s)) := by
  intro l J Jx Jp W hJ hJx hK hY h0
  have hc0 := hK 0 W h0
  refine callsIn_of_wp Tryd.func81 rfl trivial ?_ rfl
  simp only [Tryd.ntmps81, List.size_toArray, List.length_cons, List.length_nil, Nat.reduceAdd, Nat.reduceSub, Array.replicate_succ, Array.replicate_zero, List.push_toArray, List.append_toArray, List.nil_append, List.cons_append]
  gi_wp2
  gi_loopw [8, 3, 4, 5, 19, 28] (fun i _ _ _ _ _ wr => ∃ k : Nat, k ≤ s.size ∧ i = .int .i64 k ∧ J k wr) (fun i _ _ _ _ _ _ => s.size - (intOf i).toNat)
  case atStart => exact ⟨0, by omega, rfl, h0⟩
  case round =>
    obtain ⟨k, hk, rfl, hj⟩ := hrel
    by_cases hlt : k < s.size
    · have hc := hK _ _ hj
      have c1 : (k : Int) < s.size := by omega
      have hw2 : IntKind.i64.wrap ((k : Int) + 1) = k + 1 := IntWalk.i64_in _ ⟨by omega, by omega⟩
      have hi0 : ∀ w, (Instr.index 9 (.string s) (.int .i64 k)).run Tryd.prog w = .ok (.int .u8 (byteN s k)) w := fun w => str_index s k hlt w
      have hsl := fun w => str_one s k hlt w
      rw [byteU_N s k hlt] at hi0
      obtain ⟨u, hu⟩ : ∃ u, byteU s k = u := ⟨_, rfl⟩
      have HU := Lib.hid hu
      rw [hu] at hsl hi0
      clear hu
      by_cases q1 : u = 34
      · subst q1
        have HE : escS s k = ⟨#[92]⟩ ++ ⟨#[34]⟩ := by unfold escS; rw [HU.out]; rfl
        obtain ⟨fn, tmps, assign, body, hy, hR⟩ := hY k wr hj hlt
        rw [HE] at hy
        gi_wp2_with (refine ⟨rfl, ?_⟩; refine hR.mono ?_; intro e W3 h3; rcases yield_cases h3 with ⟨ch, rfl, hp3⟩ | ⟨t, rfl, h4⟩; exact ⟨rfl, .inr ⟨k, ch, hlt, rfl, hp3⟩⟩; clear h3; rcases h4 with ⟨rfl, hj3⟩ | ⟨rfl, hx3⟩)
        all_goals first
          | (go_roundw
             case rel => exact ⟨k + 1, by omega, by go_num, hj3⟩
             case measure => simp [intOf, hw2]; omega)
          | (refine bodyPost_ret (results_none rfl _ _ _) rfl ?_
             exact .inl ⟨⟨_, rfl⟩, .inr ⟨k, hlt, hx3⟩⟩)
      · by_cases q2 : u = 92
        · subst q2
          have HE : escS s k = ⟨#[92]⟩ ++ ⟨#[92]⟩ := by unfold escS; rw [HU.out]; rfl
          obtain ⟨fn, tmps, assign, body, hy, hR⟩ := hY k wr hj hlt
          rw [HE] at hy
          gi_wp2_with (refine ⟨rfl, ?_⟩; refine hR.mono ?_; intro e W3 h3; rcases yield_cases h3 with ⟨ch, rfl, hp3⟩ | ⟨t, rfl, h4⟩; exact ⟨rfl, .inr ⟨k, ch, hlt, rfl, hp3⟩⟩; clear h3; rcases h4 with ⟨rfl, hj3⟩ | ⟨rfl, hx3⟩)
          all_goals first
            | (go_roundw
               case rel => exact ⟨k + 1, by omega, by go_num, hj3⟩
               case measure => simp [intOf, hw2]; omega)
            | (refine bodyPost_ret (results_none rfl _ _ _) rfl ?_
               exact .inl ⟨⟨_, rfl⟩, .inr ⟨k, hlt, hx3⟩⟩)
        · have n1 : ((u.toNat : Int) == 34) = false := by
            simp only [beq_eq_false_iff_ne, ne_eq]
            intro e
            exact q1 (UInt8.toNat_inj.1 (by simpa using (by omega : u.toNat = 34)))
          have n2 : ((u.toNat : Int) == 92) = false := by
            simp only [beq_eq_false_iff_ne, ne_eq]
            intro e
            exact q2 (UInt8.toNat_inj.1 (by simpa using (by omega : u.toNat = 92)))
          by_cases q3 : u.toNat < 32
          · have c3 : (u.toNat : Int) < 32 := by omega
            have HQ := Lib.hid (And.intro q1 q2)
            have HE : escS s k = ⟨#[92, 120]⟩ ++ ⟨#[hexd (u.toNat / 16)]⟩ ++ ⟨#[hexd (u.toNat % 16)]⟩ := by unfold escS; rw [HU.out, escL_hex HQ.out.1 HQ.out.2 (by omega)]; rfl
            have h256 : u.toNat < 256 := u.toNat_lt
            have z1 := bits15 ⟨u.toNat, h256⟩
            simp only at z1
            have z3 : ∀ w, (Instr.index 9 (.string ⟨#[48, 49, 50, 51, 52, 53, 54, 55, 56, 57, 97, 98, 99, 100, 101, 102]⟩) (.int .u8 ((u.toNat : Int) / 16))).run Tryd.prog w = .ok (.int .u8 ((hexd (u.toNat / 16)).toNat : Int)) w := fun w => by
              have := run_hex (u.toNat / 16) (by omega) w
              rwa [Int.natCast_ediv] at this
            have z4 : ∀ w, (Instr.index 9 (.string ⟨#[48, 49, 50, 51, 52, 53, 54, 55, 56, 57, 97, 98, 99, 100, 101, 102]⟩) (.int .u8 ((u.toNat % 16 : Nat) : Int))).run Tryd.prog w = .ok (.int .u8 ((hexd (u.toNat % 16)).toNat : Int)) w := fun w => run_hex _ (by omega) w
            have z5 := fun w => run_chr (u.toNat / 16) (by omega) w
            have z6 := fun w => run_chr (u.toNat % 16) (by omega) w
            clear q1 q2 q3
            generalize hexd (u.toNat / 16) = d1 at *
            generalize hexd (u.toNat % 16) = d2 at *
            generalize u.toNat % 16 = m2 at *
            have hYn := fun n => hY k (wr.drewN n) (hJ _ _ _ hj ((Ext.refl wr).drewN n)) hlt
            rw [HE] at hYn
            gi_wp2
            gi_quiet (fail)
            obtain ⟨fn, tmps, assign, body, hy, hR⟩ := hYn nq
            gi_wp2_with (refine ⟨rfl, ?_⟩; refine hR.mono ?_; intro e W3 h3; rcases yield_cases h3 with ⟨ch, rfl, hp3⟩ | ⟨t, rfl, h4⟩; exact ⟨rfl, .inr ⟨k, ch, hlt, rfl, hp3⟩⟩; clear h3; rcases h4 with ⟨rfl, hj3⟩ | ⟨rfl, hx3⟩)
            all_goals first
              | (go_roundw
                 case rel => exact ⟨k + 1, by omega, by go_num, hj3⟩
                 case measure => simp [intOf, hw2]; omega)
              | (refine bodyPost_ret (results_none rfl _ _ _) rfl ?_
                 exact .inl ⟨⟨_, rfl⟩, .inr ⟨k, hlt, hx3⟩⟩)
          · by_cases q4 : 126 < u.toNat
            · have c3 : decide ((u.toNat : Int) < 32) = false := decide_eq_false (by omega)
              have c4 : (126 : Int) < (u.toNat : Int) := by omega
              have HQ := Lib.hid (And.intro q1 q2)
              have HE : escS s k = ⟨#[92, 120]⟩ ++ ⟨#[hexd (u.toNat / 16)]⟩ ++ ⟨#[hexd (u.toNat % 16)]⟩ := by unfold escS; rw [HU.out, escL_hex HQ.out.1 HQ.out.2 (by omega)]; rfl
              have h256 : u.toNat < 256 := u.toNat_lt
              have z1 := bits15 ⟨u.toNat, h256⟩
              simp only at z1
              have z3 : ∀ w, (Instr.index 9 (.string ⟨#[48, 49, 50, 51, 52, 53, 54, 55, 56, 57, 97, 98, 99, 100, 101, 102]⟩) (.int .u8 ((u.toNat : Int) / 16))).run Tryd.prog w = .ok (.int .u8 ((hexd (u.toNat / 16)).toNat : Int)) w := fun w => by
                have := run_hex (u.toNat / 16) (by omega) w
                rwa [Int.natCast_ediv] at this
              have z4 : ∀ w, (Instr.index 9 (.string ⟨#[48, 49, 50, 51, 52, 53, 54, 55, 56, 57, 97, 98, 99, 100, 101, 102]⟩) (.int .u8 ((u.toNat % 16 : Nat) : Int))).run Tryd.prog w = .ok (.int .u8 ((hexd (u.toNat % 16)).toNat : Int)) w := fun w => run_hex _ (by omega) w
              have z5 := fun w => run_chr (u.toNat / 16) (by omega) w
              have z6 := fun w => run_chr (u.toNat % 16) (by omega) w
              clear q1 q2 q3 q4
              generalize hexd (u.toNat / 16) = d1 at *
              generalize hexd (u.toNat % 16) = d2 at *
              generalize u.toNat % 16 = m2 at *
              have hYn := fun n => hY k (wr.drewN n) (hJ _ _ _ hj ((Ext.refl wr).drewN n)) hlt
              rw [HE] at hYn
              gi_wp2
              gi_quiet (fail)
              obtain ⟨fn, tmps, assign, body, hy, hR⟩ := hYn nq
              gi_wp2_with (refine ⟨rfl, ?_⟩; refine hR.mono ?_; intro e W3 h3; rcases yield_cases h3 with ⟨ch, rfl, hp3⟩ | ⟨t, rfl, h4⟩; exact ⟨rfl, .inr ⟨k, ch, hlt, rfl, hp3⟩⟩; clear h3; rcases h4 with ⟨rfl, hj3⟩ | ⟨rfl, hx3⟩)
              all_goals first
                | (go_roundw
                   case rel => exact ⟨k + 1, by omega, by go_num, hj3⟩
                   case measure => simp [intOf, hw2]; omega)
                | (refine bodyPost_ret (results_none rfl _ _ _) rfl ?_
                   exact .inl ⟨⟨_, rfl⟩, .inr ⟨k, hlt, hx3⟩⟩)
            · have c3 : decide ((u.toNat : Int) < 32) = false := decide_eq_false (by omega)
              have c4 : decide ((126 : Int) < (u.toNat : Int)) = false := decide_eq_false (by omega)
              have HQ := Lib.hid (And.intro (And.intro q1 q2) (And.intro q3 q4))
              clear q1 q2 q3 q4
              have HE : escS s k = ⟨#[u]⟩ := by unfold escS; rw [HU.out, escL_plain HQ.out.1.1 HQ.out.1.2 HQ.out.2.1 HQ.out.2.2]
              obtain ⟨fn, tmps, assign, body, hy, hR⟩ := hY k wr hj hlt
              rw [HE] at hy
              gi_wp2_with (refine ⟨rfl, ?_⟩; refine hR.mono ?_; intro e W3 h3; rcases yield_cases h3 with ⟨ch, rfl, hp3⟩ | ⟨t, rfl, h4⟩; exact ⟨rfl, .inr ⟨k, ch, hlt, rfl, hp3⟩⟩; clear h3; rcases h4 with ⟨rfl, hj3⟩ | ⟨rfl, hx3⟩)
              all_goals first
                | (go_roundw
                   case rel => exact ⟨k + 1, by omega, by go_num, hj3⟩
                   case measure => simp [intOf, hw2]; omega)
                | (refine bodyPost_ret (results_none rfl _ _ _) rfl ?_
                   exact .inl ⟨⟨_, rfl⟩, .inr ⟨k, hlt, hx3⟩⟩)
    · obtain rfl : k = s.size := by omega
      gi_wp2
      go_end0
      exact .inl ⟨⟨_, rfl⟩, .inl hj⟩
end
section
open Go.RowKit
set_option linter.unusedVariables false
set_option maxRecDepth 20000
set_option linter.unusedSimpArgs false
set_option linter.unusedSectionVars false
set_option maxRecDepth 100000

abbrev BldT : TypeId := 105
theorem bld_size : (Tryd.prog.info? BldT).map (·.size) = some 2 := by kernel_rfl
theorem bld_lies : liesAt Tryd.prog Tryd.prog.depth BldT (2 / Tryd.prog.cellsOf BldT) 0 BldT 1 = true := by kernel_rfl
theorem u8_parts : ∃ i, Tryd.prog.info? 5 = some i ∧ i.zero = some (.int .u8 0) ∧ i.size = 1 ∧ i.bytes = 1 := u8_info
theorem bcheck_used (b : Nat) (w : World) (h0 : w.cell? ⟨b, 0, none⟩ = some (.pointer (some ⟨b, 0, none⟩))) :
    Calls Tryd.prog 80 #[.pointer (some ⟨b, 0, none⟩)] w fun e w' => e = .returned (.tuple #[]) ∧ w' = w := by
  obtain ⟨j, hj, _⟩ := Option.map_eq_some_iff.1 bld_size
  go_enter Tryd.func80, Tryd.ntmps80
  go_wp2
  rw [Lib.run_neq_ptr_same w _ Tryd.underlying102 hj]
  go_wp2
  go_end0
  exact ⟨rfl, rfl⟩
theorem bcheck_fresh (b : Nat) (w : World) (h0 : w.cell? ⟨b, 0, none⟩ = some (.pointer none)) (hsh : w.shape? b = some (BldT, 2)) (hfz : w.frozen? ⟨b, 0, none⟩ = false) :
    Calls Tryd.prog 80 #[.pointer (some ⟨b, 0, none⟩)] w fun e w' => e = .returned (.tuple #[]) ∧ w' = w.setCell ⟨b, 0, none⟩ (.pointer (some ⟨b, 0, none⟩)) := by
  obtain ⟨j, hj, hjs⟩ := Option.map_eq_some_iff.1 bld_size
  go_enter Tryd.func80, Tryd.ntmps80
  go_wp2
  rw [Lib.run_to_unsafe w ⟨b, 0, none⟩ Tryd.underlying102 Tryd.underlying125 hj (by rw [hjs]; decide) hsh (Nat.zero_lt_succ 1)]
  simp only [Result.andThen]
  rw [Oper.upon_value]
  go_wp2
  rw [run_callFunc_extern Tryd.func86 (by kernel_rfl) (by kernel_rfl) (by kernel_rfl) (e := Extern.AbiNoEscape.same) (by kernel_rfl)]
  rw [Lib.run_noEscape]
  simp only [Result.andThen]
  rw [Oper.upon_value]
  go_wp2
  rw [Lib.run_from_unsafe w ⟨b, 0, none⟩ Tryd.underlying125 Tryd.underlying102 hj hsh bld_lies]
  simp only [Result.andThen]
  rw [Oper.upon_value]
  go_wp2
  go_end0
  exact ⟨rfl, rfl⟩
theorem bcheck_any (B b : Nat) (bs : List Value) (w : World) (h : Lib.IsBuilderF BldT 5 B b bs w) :
    Calls Tryd.prog 80 #[.pointer (some ⟨b, 0, none⟩)] w fun e w' => e = .returned (.tuple #[]) ∧ (Lib.BuilderAtF BldT 5 B b (.pointer (some ⟨b, 0, none⟩)) bs w' ∧ Below B w w' ∧ Lib.OthersKept 5 (some b) w w') := by
  rcases h with h | h
  · exact (bcheck_fresh b w h.cell0 h.shape h.frozen0).mono fun e w' ⟨he, hw⟩ => by
      subst hw
      exact ⟨he, h.used _, (Below.refl B w).setCell (p := ⟨b, 0, none⟩) h.1 _, (Lib.OthersKept.refl _ _ w).setCell ⟨b, 0, none⟩ rfl _⟩
  · exact (bcheck_used b w h.cell0).mono fun e w' ⟨he, hw⟩ => by
      subst hw
      exact ⟨he, h, Below.refl B _, Lib.OthersKept.refl _ _ _⟩
theorem bld_ne : BldT ≠ 5 := by decide

set_option maxHeartbeats 2000000 in
theorem bbyte_any (B b : Nat) (bs : List Value) (c : Int) (w : World) (h : Lib.IsBuilderF BldT 5 B b bs w) (hlen : bs.length + 1 ≤ 140737488355328) (hBw : B ≤ w.heap.size) :
    Calls Tryd.prog 68 #[.pointer (some ⟨b, 0, none⟩), .int .u8 c] w fun e w' => e = .returned .nilIface ∧ (Lib.BuilderAtF BldT 5 B b (.pointer (some ⟨b, 0, none⟩)) (bs ++ [.int .u8 c]) w' ∧ Below B w w' ∧ Lib.OthersKept 5 (some b) w w') := by
  obtain ⟨i0, hi, hz0, hz1, hz2⟩ := u8_parts
  go_enter Tryd.func68, Tryd.ntmps68
  go_wp2_with (go_at_call 80; refine (bcheck_any B b bs _ h).mono ?_)
  rintro e w1 ⟨rfl, ⟨hB, v, hbk, hown, hne⟩, hb1, hk1⟩
  have c0 : w1.cell? ⟨b, 0, none⟩ = some (.pointer (some ⟨b, 0, none⟩)) := (Lib.cell_of_heap hbk 0).trans rfl
  have c1 : w1.cell? ⟨b, 1, none⟩ = some v := (Lib.cell_of_heap hbk 1).trans rfl
  go_wp2_with (at_builtin; refine wpList_append_ownF _ rfl _ _ 103 rfl B 5 i0 (.int .u8 0) 1 1 Tryd.underlying103 hi hz0 hz1 hz2 rfl (by decide) _ _ _ rfl (hown.alloc _) ⟨w1.heap.size, 0, none⟩ 1 1 [.int .u8 c] rfl rfl ?c1 ?c2 ?c3 ?c4 ?c5 ?_)
  case c1 =>
    intro j u hj
    match j, hj with
    | 0, hj => simp at hj; subst hj; simp [Addr.add]
  case c2 => intro u hu; simp at hu; subst hu; rfl
  case c3 => unfold maxLen; omega
  case c4 => omega
  case c5 => have := hb1.size; simp; omega
  intro v' w2 hown' hgrow _
  have hlt : b < w1.heap.size := by
    rcases Nat.lt_or_ge b w1.heap.size with h' | h'
    · exact h'
    · simp [Array.getElem?_eq_none h'] at hbk
  have hb2 : w2.heap[b]? = some (.cells #[.pointer (some ⟨b, 0, none⟩), v] BldT (0, 0)) := by
    rw [hgrow.block b (by simp; omega) (fun e => hne e.symm), Lib.alloc_old w1 _ b hlt]
    exact hbk
  have d0 : w2.cell? ⟨b, 0, none⟩ = some (.pointer (some ⟨b, 0, none⟩)) := by rw [Lib.cell_of_heap hb2]; rfl
  have d1 : w2.cell? ⟨b, 1, none⟩ = some v := by rw [Lib.cell_of_heap hb2]; rfl
  have f1 : w2.frozen? ⟨b, 1, none⟩ = false := Lib.frozen_of_heap hb2 1
  obtain ⟨g, cap, rfl⟩ : ∃ g cap, v' = .slice (some ⟨g, 0, none⟩) (bs.length + 1) cap := by
    rcases hown'.2 with ⟨_, h0⟩ | ⟨g, cap, cur, fz, hv, _⟩
    · omega
    · exact ⟨g, cap, hv⟩
  go_wp2
  go_ret
  refine ⟨rfl, ?_, ?_, ((hk1.alloc _).grown hgrow (Lib.ownsRowF_kind (hown.alloc _))).setCell ⟨b, 1, none⟩ rfl _⟩
  · exact Lib.BuilderAtF.put (T := BldT) (e := 5) hB hb2 (bs' := bs ++ [.int .u8 c]) (by simpa using hown') bld_ne
  · exact ((hb1.alloc (by have := hb1.size; omega) _).grown hgrow (by have := hb1.size; simp; omega) (fun k hk => (hown.lt k hk).1)).setCell (p := ⟨b, 1, none⟩) hB _

set_option maxHeartbeats 2000000 in
theorem bstr_any (B b : Nat) (bs : List Value) (s : ByteArray) (w : World) (h : Lib.IsBuilderF BldT 5 B b bs w) (hlen : bs.length + s.size ≤ 140737488355328) (hBw : B ≤ w.heap.size) :
    Calls Tryd.prog 70 #[.pointer (some ⟨b, 0, none⟩), .string s] w fun e w' => e = .returned (.tuple #[.int .i64 s.size, .nilIface]) ∧ (Lib.BuilderAtF BldT 5 B b (.pointer (some ⟨b, 0, none⟩)) (bs ++ Lib.strCells s) w' ∧ Below B w w' ∧ Lib.OthersKept 5 (some b) w w') := by
  obtain ⟨i0, hi, hz0, hz1, hz2⟩ := u8_parts
  go_enter Tryd.func70, Tryd.ntmps70
  go_wp2_with (go_at_call 80; refine (bcheck_any B b bs _ h).mono ?_)
  rintro e w1 ⟨rfl, ⟨hB, v, hbk, hown, hne⟩, hb1, hk1⟩
  have c0 : w1.cell? ⟨b, 0, none⟩ = some (.pointer (some ⟨b, 0, none⟩)) := (Lib.cell_of_heap hbk 0).trans rfl
  have c1 : w1.cell? ⟨b, 1, none⟩ = some v := (Lib.cell_of_heap hbk 1).trans rfl
  go_wp2_with (at_builtin; refine Lib.wpList_append_own_stringF _ rfl _ _ 103 9 rfl B 5 i0 Tryd.underlying103 Tryd.underlying9 hi hz0 hz1 hz2 _ _ _ rfl hown s rfl ?c3 ?c4 ?c5 ?_)
  case c3 => unfold maxLen; omega
  case c4 => omega
  case c5 => have := hb1.size; omega
  intro v' w2 hown' hgrow _
  have hlt : b < w1.heap.size := by
    rcases Nat.lt_or_ge b w1.heap.size with h' | h'
    · exact h'
    · simp [Array.getElem?_eq_none h'] at hbk
  have hb2 : w2.heap[b]? = some (.cells #[.pointer (some ⟨b, 0, none⟩), v] BldT (0, 0)) := by
    rw [hgrow.block b hlt (fun e => hne e.symm)]
    exact hbk
  have d0 : w2.cell? ⟨b, 0, none⟩ = some (.pointer (some ⟨b, 0, none⟩)) := by rw [Lib.cell_of_heap hb2]; rfl
  have d1 : w2.cell? ⟨b, 1, none⟩ = some v := by rw [Lib.cell_of_heap hb2]; rfl
  have f1 : w2.frozen? ⟨b, 1, none⟩ = false := Lib.frozen_of_heap hb2 1
  obtain ⟨ao, n', cap, rfl⟩ : ∃ ao n' cap, v' = .slice ao n' cap := by
    rcases hown'.2 with ⟨hv, _⟩ | ⟨g, cap, cur, fz, hv, _⟩
    · exact ⟨_, _, _, hv⟩
    · exact ⟨_, _, _, hv⟩
  go_wp2
  go_ret2
  refine ⟨rfl, ?_, ?_, (hk1.grown hgrow (Lib.ownsRowF_kind hown)).setCell ⟨b, 1, none⟩ rfl _⟩
  · exact Lib.BuilderAtF.put (T := BldT) (e := 5) hB hb2 (bs' := bs ++ Lib.strCells s) (by simpa [Lib.strCells_length] using hown') bld_ne
  · exact (hb1.grown hgrow (by have := hb1.size; omega) (fun k hk => (hown.lt k hk).1)).setCell (p := ⟨b, 1, none⟩) hB _
end
section
open Go.RowKit
set_option linter.unusedVariables false
set_option maxRecDepth 20000
set_option linter.unusedSimpArgs false
set_option linter.unusedSectionVars false
set_option maxRecDepth 20000
attribute [local go_sem] Oper.semAt_some

def withinB (n lo hi : Int) : Bool := decide (lo ≤ n ∧ n ≤ hi)
def valB (x : Vl) : Bool := if x.1 = 1 then withinB x.2.1 (-1000000000) 1000000000 && decide (x.2.2.size = 0) else decide (x.1 = 2 ∧ x.2.1 = 0 ∧ x.2.2.size ≤ 40)
def itemB (x : It) : Bool := nameF x.1 && (if x.2.1 = 1 then decide (x.2.2.1 ≤ x.2.2.2.1 ∧ -1000000000 ≤ x.2.2.1 ∧ x.2.2.2.1 ≤ 1000000000 ∧ x.2.2.2.2 = 0) else decide (x.2.1 = 2 ∧ 1 ≤ x.2.2.2.2 ∧ x.2.2.2.2 ≤ 40 ∧ x.2.2.1 = 0 ∧ x.2.2.2.1 = 0))
theorem empty_of {s : ByteArray} (h : s.size = 0) : s = ⟨#[]⟩ := by
  obtain ⟨d⟩ := s
  have h1 : d.size = 0 := h
  have := Array.eq_empty_of_size_eq_zero h1
  subst this
  rfl
theorem nonempty_of {s : ByteArray} (h : ¬ s.size = 0) : s.toList.isEmpty = false := by
  cases hl : s.toList with
  | nil => exact absurd ((toList_nil s).1 hl) h
  | cons a l => rfl
theorem within_any (n lo hi : Int) (w : World) : Calls Tryd.prog 63 #[.int .i64 n, .int .i64 lo, .int .i64 hi] w fun e w' => e = .returned (.bool (withinB n lo hi)) ∧ w = w' := by
  by_cases h1 : lo ≤ n
  · by_cases h2 : n ≤ hi
    · have hB : withinB n lo hi = true := decide_eq_true ⟨h1, h2⟩
      rw [hB]
      go_enter Tryd.func63, Tryd.ntmps63
      go_wp2
      go_ret
      exact ⟨rfl, rfl⟩
    · have hB : withinB n lo hi = false := decide_eq_false (by omega)
      have h3 : decide (n ≤ hi) = false := decide_eq_false h2
      rw [hB]
      clear hB
      go_enter Tryd.func63, Tryd.ntmps63
      go_wp2
      go_ret
      exact ⟨by first | rfl | (simp; omega), rfl⟩
  · have hB : withinB n lo hi = false := decide_eq_false (by omega)
    have h3 : decide (lo ≤ n) = false := decide_eq_false h1
    rw [hB]
    clear hB
    go_enter Tryd.func63, Tryd.ntmps63
    go_wp2
    go_ret
    exact ⟨by first | rfl | (simp; omega), rfl⟩
theorem rvalue_any (x : Vl) (w : World) : Calls Tryd.prog 46 #[x.v] w fun e w' => e = .returned (.bool (valB x)) ∧ Ext w w' := by
  obtain ⟨k, n, s⟩ := x
  show Calls _ _ #[.agg #[.int .i64 k, .int .i64 n, .string s]] _ _
  by_cases hk : k = 1
  · subst hk
    by_cases h1 : -1000000000 ≤ n
    · by_cases h2 : n ≤ 1000000000
      · by_cases hs : s.size = 0
        · have hB : valB (1, n, s) = true := by simp [valB, withinB, h1, h2, hs]
          obtain rfl := empty_of hs
          rw [hB]
          clear hB
          go_enter Tryd.func46, Tryd.ntmps46
          go_wp2
          go_ret
          exact ⟨by first | rfl | (simp; done) | (simp; omega), by (repeat (first | exact Ext.refl _ | assumption | refine Ext.drew ?_ | refine Ext.drewN ?_ _ | refine Ext.alloc ?_ _))⟩
        · have hB : valB (1, n, s) = false := by simp [valB, hs]
          have hne := nonempty_of hs
          rw [hB]
          clear hB
          go_enter Tryd.func46, Tryd.ntmps46
          go_wp2
          go_ret
          exact ⟨by first | rfl | (simp; done) | (simp; omega), by (repeat (first | exact Ext.refl _ | assumption | refine Ext.drew ?_ | refine Ext.drewN ?_ _ | refine Ext.alloc ?_ _))⟩
      · have hB : valB (1, n, s) = false := by simp [valB, withinB, h2]
        have h3 : decide (n ≤ 1000000000) = false := decide_eq_false h2
        rw [hB]
        clear hB h2
        go_enter Tryd.func46, Tryd.ntmps46
        go_wp2
        go_ret
        exact ⟨by first | rfl | (simp; done) | (simp; omega), by (repeat (first | exact Ext.refl _ | assumption | refine Ext.drew ?_ | refine Ext.drewN ?_ _ | refine Ext.alloc ?_ _))⟩
    · have hB : valB (1, n, s) = false := by simp [valB, withinB, h1]
      have h3 : decide (-1000000000 ≤ n) = false := decide_eq_false h1
      rw [hB]
      clear hB h1
      go_enter Tryd.func46, Tryd.ntmps46
      go_wp2
      go_ret
      exact ⟨by first | rfl | (simp; done) | (simp; omega), by (repeat (first | exact Ext.refl _ | assumption | refine Ext.drew ?_ | refine Ext.drewN ?_ _ | refine Ext.alloc ?_ _))⟩
  · have hk1 : (k == 1) = false := by simpa using hk
    by_cases h2 : k = 2
    · subst h2
      by_cases hn : n = 0
      · subst hn
        by_cases hs : s.size ≤ 40
        · have hB : valB (2, 0, s) = true := by simp [valB, hs]
          have hs' : (s.size : Int) ≤ 40 := by omega
          rw [hB]
          clear hB hk
          go_enter Tryd.func46, Tryd.ntmps46
          go_wp2
          go_ret
          exact ⟨by first | rfl | (simp; done) | (simp; omega), by (repeat (first | exact Ext.refl _ | assumption | refine Ext.drew ?_ | refine Ext.drewN ?_ _ | refine Ext.alloc ?_ _))⟩
        · have hB : valB (2, 0, s) = false := by simp [valB, hs]
          have hs' : decide ((s.size : Int) ≤ 40) = false := decide_eq_false (by omega)
          rw [hB]
          clear hB hk hs
          go_enter Tryd.func46, Tryd.ntmps46
          go_wp2
          go_ret
          exact ⟨by first | rfl | (simp; done) | (simp; omega), by (repeat (first | exact Ext.refl _ | assumption | refine Ext.drew ?_ | refine Ext.drewN ?_ _ | refine Ext.alloc ?_ _))⟩
      · have hB : valB (2, n, s) = false := by simp [valB, hn]
        have hn1 : (n == 0) = false := by simpa using hn
        rw [hB]
        clear hB hk hn
        go_enter Tryd.func46, Tryd.ntmps46
        go_wp2
        go_ret
        exact ⟨by first | rfl | (simp; done) | (simp; omega), by (repeat (first | exact Ext.refl _ | assumption | refine Ext.drew ?_ | refine Ext.drewN ?_ _ | refine Ext.alloc ?_ _))⟩
    · have hB : valB (k, n, s) = false := by simp [valB, hk, h2]
      have hk2 : (k == 2) = false := by simpa using h2
      rw [hB]
      clear hB hk h2
      go_enter Tryd.func46, Tryd.ntmps46
      go_wp2
      go_ret
      exact ⟨by first | rfl | (simp; done) | (simp; omega), by (repeat (first | exact Ext.refl _ | assumption | refine Ext.drew ?_ | refine Ext.drewN ?_ _ | refine Ext.alloc ?_ _))⟩
end
section
open Go.RowKit
set_option linter.unusedVariables false
set_option maxRecDepth 20000
set_option linter.unusedSimpArgs false
set_option linter.unusedSectionVars false
set_option maxRecDepth 100000
attribute [local go_sem] Oper.semAt_some

/-- the library's table of powers of ten -/
def Tab (w : World) : Prop := Lib.TabIs Tryd.prog w "internal/strconv.uint64pow10" .u64 Lib.pow10Tab
def escA (s : ByteArray) (n : Nat) : List UInt8 := (List.range n).flatMap fun i => escL (byteU s i)
def wrL (v : Vl) : List UInt8 := if v.1 = 1 then Lib.itoa v.2.1 else [34] ++ escA v.2.2 v.2.2.size ++ [34]
theorem Tab.ext {w w' : World} (h : Tab w) (hx : Ext w w') : Tab w' := by
  unfold Tab Lib.TabIs World.var? at *
  cases hg : Tryd.prog.globalNamed "internal/strconv.uint64pow10" with
  | none => rw [hg] at h; cases h
  | some g =>
    rw [hg] at h
    simp only [Option.bind_some] at h ⊢
    cases hh : w.heap[g]? with
    | none => rw [hh] at h; cases h
    | some o => rw [hx.heap hh]; rw [hh] at h; exact h
theorem grow_ext (w : World) (k : Nat) (os : Array Obj) : Ext w (Sort.grow (w.drewN k) os) :=
  ⟨rfl, rfl, rfl, by simp [Sort.grow, World.drewN], fun i hi => Sort.heap_grow_old (w.drewN k) os (by exact hi)⟩
theorem escL_le (c : UInt8) : (escL c).length ≤ 4 := by
  unfold escL
  split
  · simp
  · split <;> simp
theorem escA_succ (s : ByteArray) (n : Nat) : escA s (n + 1) = escA s n ++ escL (byteU s n) := by
  unfold escA
  rw [List.range_succ, List.flatMap_append]
  simp
theorem escA_le (s : ByteArray) : ∀ n, (escA s n).length ≤ 4 * n
  | 0 => by simp [escA]
  | n + 1 => by
    rw [escA_succ, List.length_append]
    have := escA_le s n
    have := escL_le (byteU s n)
    omega
/-- block b is a strings.Builder that holds the bytes l, its buffer behind it -/
def Bld (w : World) (b : Nat) (l : List UInt8) : Prop := Lib.IsBuilderF BldT 5 b b (Lib.byteCells l) w
theorem Bld.ext {w w' : World} {b : Nat} {l : List UInt8} (h : Bld w b l) (hx : Ext w w') : Bld w' b l := by
  have key : ∀ p, Lib.BuilderAtF BldT 5 b b p (Lib.byteCells l) w → Lib.BuilderAtF BldT 5 b b p (Lib.byteCells l) w' := by
    rintro p ⟨hB, v, hb, hown, hne⟩
    refine ⟨hB, v, hx.heap hb, ?_, hne⟩
    exact hown.kept (row := none) ⟨hx.os, hx.tape, hx.output, hx.size, fun k hk _ => hx.block hk⟩ (by cases hv : v.ownBlock with | none => exact .inl rfl | some g => exact .inr (by simp))
  rcases h with h | h
  · exact .inl (key _ h)
  · exact .inr (key _ h)
theorem Bld.loop {w : World} {b S : Nat} {l : List UInt8} {r r' : Loop} (h : Bld w b l) (hS : w.heap[S]? = some (.loop r)) : Bld (w.putObj S (.loop r')) b l := by
  have key : ∀ p, Lib.BuilderAtF BldT 5 b b p (Lib.byteCells l) w → Lib.BuilderAtF BldT 5 b b p (Lib.byteCells l) (w.putObj S (.loop r')) := by
    rintro p ⟨hB, v, hb, hown, hne⟩
    have hbS : b ≠ S := fun e => by subst e; rw [hS] at hb; cases hb
    refine ⟨hB, v, ?_, ?_, hne⟩
    · rw [World.putObj_heap_other hbS]; exact hb
    · refine hown.kept (row := some S) (grownBy_putObj' _ _ _) (.inr ?_)
      intro e
      obtain ⟨c, fz, hc⟩ := Lib.ownsRowF_kind hown S e
      rw [hS] at hc
      cases hc
  rcases h with h | h
  · exact .inl (key _ h)
  · exact .inr (key _ h)
theorem ext_below {a b c : World} {B : Nat} (h : Ext a b) (k : Below B b c) (hB : a.heap.size ≤ B) : Ext a c := Below.trans h (Below.mono k hB)
theorem kept_loop {w w' : World} {b S : Nat} {r : Loop} (h : Lib.OthersKept 5 (some b) w w') (hS : w.heap[S]? = some (.loop r)) (hne : S ≠ b) : w'.heap[S]? = some (.loop r) := h S _ hS (by simpa using hne) (by intro c fz e; cases e)
theorem kept_defer {w w' : World} {b S : Nat} {l : Option (List Deferred)} (h : Lib.OthersKept 5 (some b) w w') (hS : w.heap[S]? = some (.deferred l)) (hne : S ≠ b) : w'.heap[S]? = some (.deferred l) := h S _ hS (by simpa using hne) (by intro c fz e; cases e)
theorem kept_box {w w' : World} {b c : Nat} {s : ByteArray} (h : Lib.OthersKept 5 (some b) w w') (hc : Boxed w c 9 (.string s)) (hne : c ≠ b) : Boxed w' c 9 (.string s) := h c _ hc (by simpa using hne) (by intro d fz e; injection e with _ e _; exact absurd e (by decide))
theorem byteCells_str (l : List UInt8) (m : List UInt8) : Lib.byteCells l ++ Lib.strCells ⟨m.toArray⟩ = Lib.byteCells (l ++ m) := by
  simp [Lib.byteCells, Lib.strCells]
set_option maxHeartbeats 4000000 in
theorem written_any (v : Vl) (w : World) (ht : Tab w) (h1 : -9223372036854775808 ≤ v.2.1 ∧ v.2.1 ≤ 9223372036854775807) (h2 : v.2.2.size ≤ 1000) :
    Calls Tryd.prog 48 #[v.v] w fun e w' => e = .returned (.string ⟨(wrL v).toArray⟩) ∧ Ext w w' := by
  obtain ⟨k, n, s⟩ := v
  show Calls _ _ #[.agg #[.int .i64 k, .int .i64 n, .string s]] _ _
  by_cases hk : k = 1
  · subst hk
    have hI := fun W hx => Tryd.strconv_Itoa n h1.1 h1.2 W (Tab.ext ht hx)
    go_enter Tryd.func48, Tryd.ntmps48
    go_wp2_with (go_at_call 67; refine (hI _ ((Ext.refl w).alloc _)).mono ?_; rintro e w1 ⟨rfl, m, os, rfl⟩)
    go_ret
    exact ⟨rfl, ((Ext.refl w).alloc _).trans (grow_ext _ _ _)⟩
  · have hk1 : (k == 1) = false := by simpa using hk
    refine calls_of_wpAt Tryd.func48 rfl ?_
    simp only [Tryd.ntmps48, List.size_toArray, List.length_cons, List.length_nil, Nat.reduceAdd, Nat.reduceSub, Array.replicate_succ, Array.replicate_zero, List.push_toArray, List.append_toArray, List.nil_append, List.cons_append]
    refine wpAt_seq_k (fun K hK => ?_)
    go_wp2
    refine wpAt_seq_k (fun K hK => ?_)
    go_wp2
    obtain ⟨W0, hW0⟩ : ∃ W0, w.alloc (.cells #[.int .i64 k, .int .i64 n, .string s] 50) = W0 := ⟨_, rfl⟩
    have hx0 : Ext w W0 := hW0 ▸ (Ext.refl w).alloc _
    have hs0 : W0.heap.size = w.heap.size + 1 := by rw [← hW0]; simp
    have hc0 : W0.cell? ⟨w.heap.size, 2, none⟩ = some (.string s) := by rw [← hW0]; exact (World.cell?_alloc_mark _ _ _ _ 2).trans rfl
    try rw [hW0]
    have hb0 : Bld (W0.alloc (.cells #[.pointer none, .slice none 0 0] BldT)) (w.heap.size + 1) [] := by rw [← hs0]; exact Lib.IsBuilderF.of (Lib.fresh_isBuilder BldT 5 W0)
    refine wpAt_seq_k (fun K hK => ?_)
    go_wp2
    refine wpAt_seq_k (fun K hK => ?_)
    go_wp2_with (go_at_call 68; refine (bbyte_any (w.heap.size + 1) (w.heap.size + 1) (Lib.byteCells []) 34 _ hb0 (by simp [Lib.byteCells]) (by simp; omega)).mono ?_; rintro e W1 ⟨rfl, hB1, hlo1, hot1⟩)
    have hx1 : Ext w W1 := ext_below (hx0.alloc _) hlo1 (by omega)
    have hc1 : W1.cell? ⟨w.heap.size, 2, none⟩ = some (.string s) := by
      rw [World.cell?, hlo1.block _ (by simp)]
      exact (World.cell?_alloc_lt W0 _ ⟨w.heap.size, 2, none⟩ (by simp; omega)).trans hc0
    have hs1 : w.heap.size + 2 ≤ W1.heap.size := by have := hlo1.size; simp at this; omega
    replace hB1 : Bld W1 (w.heap.size + 1) [34] := .inr hB1
    clear hot1 hlo1 hb0 hc0
    refine wpAt_seq ?_
    refine wpAt_seq_k (fun K hK => ?_)
    go_wp2_with (go_at_call 69; refine (escaped_any s _).mono ?_; rintro e W2 ⟨rfl, rfl⟩)
    obtain ⟨W2, hW2⟩ : ∃ W2, W1.alloc (.cells #[.string s] 9) = W2 := ⟨_, rfl⟩
    rw [hW2]
    have hx2 : Ext W1 W2 := hW2 ▸ (Ext.refl W1).alloc _
    have hbox2 : Boxed W2 W1.heap.size 9 (.string s) := hW2 ▸ Boxed.new _ _ _
    have hs2 : W2.heap.size = W1.heap.size + 1 := by rw [← hW2]; simp
    replace hB1 := hB1.ext hx2
    replace hx1 := hx1.trans hx2
    clear hW2 hx2 hc1
    generalize W1.heap.size = c at *
    refine wpAt_block ?_
    refine wpAt_rangeFunc2 (hf := Tryd.func48) (gf := 81) (lb := #[.pointer (some ⟨c, 0, none⟩)]) rfl (enters_of Tryd.func81 (by kernel_rfl) rfl)
      (escaped_seq s _ (by omega)) (fun _ => rfl)
      (fun i W => Bld W (w.heap.size + 1) ([34] ++ escA s i) ∧ Boxed W c 9 (.string s) ∧ Ext w W)
      (fun _ _ _ => False)
      (fun i ch W => False)
      (fun i A B ⟨h1, h2, h3⟩ hx => ⟨h1.ext hx, hx.heap h2, h3.trans hx⟩)
      (fun _ _ _ _ h _ => h)
      (fun i A r r' ⟨h1, h2, h3⟩ hl => ⟨h1.loop hl, (World.putObj_heap_other (by omega)).trans h2, Upd.ext h3 (grownBy_putObj' _ _ _) (by omega)⟩)
      (fun _ _ _ _ _ h _ => h)
      (fun i A h => h.2.1.cell)
      ⟨hB1, hbox2, hx1⟩ ?round ?done (fun _ _ _ _ h _ => h.elim) (fun _ _ _ _ h _ => h.elim)
    case round =>
      rintro i W r ⟨h1, h2, h3⟩ hW hD hL hi
      gi_wp2
      refine ⟨trivial, trivial, ?_⟩
      rintro W5 r' hW5
      have hL5 : W5.heap[W2.heap.size + 1]? = some (.loop r') := by rw [hW5]; exact World.putObj_heap_same (by omega)
      have hD5 : W5.heap[W2.heap.size]? = some (.deferred (some [])) := by rw [hW5, World.putObj_heap_other (by omega)]; exact hD
      have hs5 : W5.heap.size = W.heap.size := by rw [hW5]; simp [World.putObj]
      replace h1 : Bld W5 (w.heap.size + 1) ([34] ++ escA s i) := hW5 ▸ h1.loop hL
      replace h2 : Boxed W5 c 9 (.string s) := by rw [hW5]; exact (World.putObj_heap_other (by omega)).trans h2
      replace h3 : Ext w W5 := by rw [hW5]; exact Upd.ext h3 (grownBy_putObj' _ _ _) (by omega)
      clear hW5 hD hL
      have hl := escA_le s i
      have hl2 := escL_le (byteU s i)
      have hsz : (escS s i).size ≤ 4 := hl2
      gi_wp2_with (refine ⟨trivial, rfl, ?_⟩; gi_at_call 70; refine (callsIn_wide.2 (bstr_any (w.heap.size + 1) (w.heap.size + 1) _ (escS s i) _ h1 (by rw [Lib.byteCells_length]; simp only [List.length_append, List.length_cons, List.length_nil]; omega) (by omega))).mono ?_; rintro e W6 ⟨rfl, hB6, hlo6, hot6⟩)
      refine ⟨(kept_defer hot6 hD5 (by omega)).trans hD5.symm, (kept_loop hot6 hL5 (by omega)).trans hL5.symm, ?_, kept_box hot6 h2 (by omega), ext_below h3 hlo6 (by omega)⟩
      rw [escA_succ, ← List.append_assoc]
      refine .inr ?_
      rw [← byteCells_str]
      exact hB6
    case done =>
      rintro W ⟨h1, h2, h3⟩ hD
      rw [hs2] at hD
      have hl := escA_le s s.size
      have hW := h3.size
      have hsW : c + 1 < W.heap.size := (Array.getElem?_eq_some_iff.1 hD).1
      refine wpAt_of_wp ?_
      go_wp2_with (first
        | (go_at_call 68; refine (bbyte_any (w.heap.size + 1) (w.heap.size + 1) _ 34 _ h1 (by rw [Lib.byteCells_length]; simp only [List.length_append, List.length_cons, List.length_nil]; omega) (by omega)).mono ?_; rintro e W7 ⟨rfl, hB7, hlo7, hot7⟩; have hB8 : Bld W7 (w.heap.size + 1) ([34] ++ escA s s.size ++ [34]) := .inr (by rw [Lib.byteCells_append]; exact hB7))
        | (go_at_call 71; refine (Tryd.Builder_String_any_k (w.heap.size + 1) (w.heap.size + 1) _ _ hB8 (by have := hlo7.size; omega)).mono ?_; rintro e W8 ⟨rfl, hB9, hlo8, hot8⟩))
      refine ⟨by simp, .inl ⟨_, _, rfl, run_takeDeferred (kept_defer hot8 (kept_defer hot7 hD (by omega)) (by omega)), ?_⟩⟩
      refine ⟨_, results_tmp rfl _ _ _, ?_, ?_⟩
      · show Ending.returned (.string ⟨(34 :: (escA s s.size ++ [34])).toArray⟩) = _
        unfold wrL
        rw [if_neg (show ¬ (k, n, s).1 = 1 from hk)]
        rfl
      · exact Upd.ext (ext_below (ext_below h3 hlo7 (by omega)) hlo8 (by omega)) (grownBy_putObj' _ _ _) (by omega)
end
section
open Go.RowKit
set_option linter.unusedVariables false
set_option maxRecDepth 20000
set_option linter.unusedSimpArgs false
set_option linter.unusedSectionVars false
set_option maxRecDepth 20000
attribute [local go_sem] Oper.semAt_some

def chkV : Value := .agg #[.func (.func 76) #[] #[], .func (.func 77) #[] #[], .func (.func 78) #[] #[]]
theorem checks_any (w : World) : Calls Tryd.prog 64 #[] w fun e w' => e = .returned chkV ∧ Ext w w' := by
  go_enter Tryd.func64, Tryd.ntmps64
  go_wp2
  refine bodyPost_ret (results_cell_row rfl _ _ w.heap.size 98 #[.func (.func 76) #[] #[], .func (.func 77) #[] #[], .func (.func 78) #[] #[]] (0, 0) (.array 3 82) rfl (by show (w.heap.push _)[w.heap.size]? = _; simp) (by kernel_rfl) rfl (by kernel_rfl)) rfl ?_
  exact ⟨rfl, by (repeat (first | exact Ext.refl _ | assumption | refine Ext.drew ?_ | refine Ext.drewN ?_ _ | refine Ext.alloc ?_ _))⟩
theorem chk1_any (x : Vl) (w : World) : Calls Tryd.prog 76 #[x.v] w fun e w' => e = .returned (.bool false) ∧ Ext w w' := by
  obtain ⟨k, n, s⟩ := x
  show Calls _ _ #[.agg #[.int .i64 k, .int .i64 n, .string s]] _ _
  go_enter Tryd.func76, Tryd.ntmps76
  go_wp2
  go_ret
  exact ⟨rfl, by (repeat (first | exact Ext.refl _ | assumption | refine Ext.drew ?_ | refine Ext.drewN ?_ _ | refine Ext.alloc ?_ _))⟩
theorem chk2_any (x : Vl) (w : World) : Calls Tryd.prog 77 #[x.v] w fun e w' => e = .returned (.bool (withinB x.2.1 (-1000000000) 1000000000 && decide (x.2.2.size = 0))) ∧ Ext w w' := by
  obtain ⟨k, n, s⟩ := x
  show Calls _ _ #[.agg #[.int .i64 k, .int .i64 n, .string s]] _ fun e w' => e = .returned (.bool (withinB n (-1000000000) 1000000000 && decide (s.size = 0))) ∧ Ext w w'
  by_cases hs : s.size = 0
  · rw [decide_eq_true hs, Bool.and_true]
    obtain rfl := empty_of hs
    clear hs
    go_enter Tryd.func77, Tryd.ntmps77
    go_wp2_with (go_at_call 63; refine (within_any _ _ _ _).mono ?_; rintro e w1 ⟨rfl, rfl⟩)
    go_ret
    exact ⟨rfl, by (repeat (first | exact Ext.refl _ | assumption | refine Ext.drew ?_ | refine Ext.drewN ?_ _ | refine Ext.alloc ?_ _))⟩
  · rw [decide_eq_false hs, Bool.and_false]
    have hne := nonempty_of hs
    clear hs
    go_enter Tryd.func77, Tryd.ntmps77
    go_wp2_with (go_at_call 63; refine (within_any _ _ _ _).mono ?_; rintro e w1 ⟨rfl, rfl⟩)
    go_ret
    exact ⟨rfl, by (repeat (first | exact Ext.refl _ | assumption | refine Ext.drew ?_ | refine Ext.drewN ?_ _ | refine Ext.alloc ?_ _))⟩
theorem chk3_any (x : Vl) (w : World) : Calls Tryd.prog 78 #[x.v] w fun e w' => e = .returned (.bool (decide (x.2.1 = 0 ∧ x.2.2.size ≤ 40))) ∧ Ext w w' := by
  obtain ⟨k, n, s⟩ := x
  show Calls _ _ #[.agg #[.int .i64 k, .int .i64 n, .string s]] _ fun e w' => e = .returned (.bool (decide (n = 0 ∧ s.size ≤ 40))) ∧ Ext w w'
  by_cases hn : n = 0
  · subst hn
    by_cases hs : s.size ≤ 40
    · have hs' : (s.size : Int) ≤ 40 := by omega
      rw [decide_eq_true ⟨rfl, hs⟩]
      go_enter Tryd.func78, Tryd.ntmps78
      go_wp2
      go_ret
      exact ⟨by first | rfl | (simp; done) | (simp; omega), by (repeat (first | exact Ext.refl _ | assumption | refine Ext.drew ?_ | refine Ext.drewN ?_ _ | refine Ext.alloc ?_ _))⟩
    · have hs' : decide ((s.size : Int) ≤ 40) = false := decide_eq_false (by omega)
      rw [decide_eq_false (fun h => hs h.2)]
      clear hs
      go_enter Tryd.func78, Tryd.ntmps78
      go_wp2
      go_ret
      exact ⟨by first | rfl | (simp; done) | (simp; omega), by (repeat (first | exact Ext.refl _ | assumption | refine Ext.drew ?_ | refine Ext.drewN ?_ _ | refine Ext.alloc ?_ _))⟩
  · have hn1 : (n == 0) = false := by simpa using hn
    rw [decide_eq_false (fun h => hn h.1)]
    clear hn
    go_enter Tryd.func78, Tryd.ntmps78
    go_wp2
    go_ret
    exact ⟨by first | rfl | (simp; done) | (simp; omega), by (repeat (first | exact Ext.refl _ | assumption | refine Ext.drew ?_ | refine Ext.drewN ?_ _ | refine Ext.alloc ?_ _))⟩
end
end Go.Proofs.YtcbinafokhekmaaDoor
