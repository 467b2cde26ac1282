/- strings.Lines: an iterator that keeps what is left in a cell of its own. -/
import Derived.Test.YtpobjheodlkkiaaGreatDoorRangeS
import Derived.Test.YtpobjheodlkkiaaGreatDoorTxS
import Derived.Test.YtpobjheodlkkiaaGreatDoorShelf
import Derived.Stop.RegionWithIn
import Derived.Sort.QuietIn
import Derived.Deep.RegionHeld3
import Derived.Sort.LoopGhostIn
import Derived.StillTailTactics
namespace Go.Proofs.YtpobjheodlkkiaaGreatDoor
open Go.RowKit
set_option linter.unusedVariables false
set_option linter.unusedSimpArgs false
set_option linter.unusedSectionVars false
set_option maxRecDepth 100000
attribute [local go_sem] Oper.semAt_some

/-- what is left behind i lines -/
def lnD : List UInt8 → List UInt8
  | [] => []
  | x :: r => if x = 10 then r else lnD r
def lnF : List UInt8 → List UInt8
  | [] => []
  | x :: r => if x = 10 then [10] else x :: lnF r
theorem lines_cons : ∀ (x : UInt8) (r : List UInt8), linesC (x :: r) = lnF (x :: r) :: linesC (lnD (x :: r))
  | x, [] => by
    by_cases h : x = 10
    · subst h; simp [linesC, lnF, lnD]
    · simp [linesC, lnF, lnD, h, hdc]
  | x, y :: r => by
    by_cases h : x = 10
    · subst h; simp [linesC, lnF, lnD]
    · have ih := lines_cons y r
      have e1 : linesC (x :: y :: r) = hdc x (linesC (y :: r)) := by rw [linesC, if_neg h]
      have e2 : lnF (x :: y :: r) = x :: lnF (y :: r) := by rw [lnF, if_neg h]
      have e3 : lnD (x :: y :: r) = lnD (y :: r) := by rw [lnD, if_neg h]
      rw [e1, e2, e3, ih]
      rfl
def restL (s : List UInt8) : Nat → List UInt8
  | 0 => s
  | n + 1 => lnD (restL s n)
theorem rest_lines (s : List UInt8) : ∀ n, linesC (restL s n) = (linesC s).drop n
  | 0 => rfl
  | n + 1 => by
    have ih := rest_lines s n
    show linesC (lnD (restL s n)) = _
    cases h : restL s n with
    | nil => rw [h] at ih; rw [← List.drop_drop, ← ih]; rfl
    | cons x r => rw [h, lines_cons] at ih; rw [← List.drop_drop, ← ih]; rfl
theorem rest_ne (s : List UInt8) (n : Nat) : n < (linesC s).length ↔ restL s n ≠ [] := by
  have h := congrArg List.length (rest_lines s n)
  rw [List.length_drop] at h
  cases hr : restL s n with
  | nil => rw [hr] at h; simp [linesC] at h; simp; omega
  | cons x r => rw [hr, lines_cons] at h; simp at h; simp; omega
theorem line_get (s : List UInt8) (n : Nat) (h : n < (linesC s).length) : (linesC s).getD n [] = lnF (restL s n) := by
  have hr := rest_lines s n
  cases he : restL s n with
  | nil => exact absurd he ((rest_ne s n).1 h)
  | cons x r =>
    rw [he, lines_cons, List.drop_eq_getElem_cons h] at hr
    injection hr with h1 _
    rw [List.getD_eq_getElem?_getD, List.getElem?_eq_getElem h]
    exact h1.symm
theorem lnD_len : ∀ r : List UInt8, (lnD r).length ≤ r.length
  | [] => Nat.le_refl _
  | x :: r => by
    unfold lnD
    split
    · simp
    · have := lnD_len r; simp; omega
theorem rest_len (s : List UInt8) : ∀ n, (restL s n).length ≤ s.length
  | 0 => Nat.le_refl _
  | n + 1 => Nat.le_trans (lnD_len _) (rest_len s n)
theorem idx_hit : ∀ (p r : List UInt8), (10 : UInt8) ∉ p → Lib.indexByte (p ++ 10 :: r) 10 = p.length
  | [], _, _ => by simp [Lib.indexByte]
  | x :: p, r, h => by
    simp only [List.mem_cons, not_or] at h
    rw [List.cons_append, Lib.indexByte, idx_hit p r h.2]
    have h1 : (x == 10) = false := by simpa using (Ne.symm h.1)
    have h2 : (((p.length : Nat) : Int) == -1) = false := by rw [beq_eq_false_iff_ne]; omega
    simp [h1, h2]
theorem idx_none : ∀ (p : List UInt8), (10 : UInt8) ∉ p → Lib.indexByte p 10 = -1
  | [], _ => by simp [Lib.indexByte]
  | x :: p, h => by
    simp only [List.mem_cons, not_or] at h
    rw [Lib.indexByte, idx_none p h.2]
    have h1 : (x == 10) = false := by simpa using (Ne.symm h.1)
    simp [h1]
theorem lnF_hit : ∀ (p r : List UInt8), (10 : UInt8) ∉ p → lnF (p ++ 10 :: r) = p ++ [10] ∧ lnD (p ++ 10 :: r) = r
  | [], _, _ => by simp [lnF, lnD]
  | x :: p, r, h => by
    simp only [List.mem_cons, not_or] at h
    obtain ⟨h1, h2⟩ := lnF_hit p r h.2
    rw [List.cons_append, lnF, lnD, if_neg (Ne.symm h.1), if_neg (Ne.symm h.1), h1, h2]
    exact ⟨rfl, rfl⟩
theorem lnF_none : ∀ (p : List UInt8), (10 : UInt8) ∉ p → lnF p = p ∧ lnD p = []
  | [], _ => by simp [lnF, lnD]
  | x :: p, h => by
    simp only [List.mem_cons, not_or] at h
    obtain ⟨h1, h2⟩ := lnF_none p h.2
    rw [lnF, lnD, if_neg (Ne.symm h.1), if_neg (Ne.symm h.1), h1, h2]
    exact ⟨rfl, rfl⟩
def lineV (s : ByteArray) (i : Nat) : Value := .string (mkB ((linesC s.data.toList).getD i []))
def restV (s : ByteArray) (i : Nat) : Value := .string (mkB (restL s.data.toList i))
theorem lines_any (s : ByteArray) (w : World) :
    Calls Tryz.prog 18 #[.string s] w fun e w' => e = .returned (.func (.func 30) #[] #[.pointer (some ⟨w.heap.size, 0, none⟩)]) ∧ w' = w.alloc (.cells #[.string s] 9) := by
  go_enter Tryz.func18, Tryz.ntmps18
  go_wp2
  go_ret
  exact ⟨rfl, rfl⟩
theorem yield_cases {e : Ending} {A B : Prop} {C : List PanicEntry → Prop} (h : (e = .returned (.bool true) ∧ A) ∨ (e = .returned (.bool false) ∧ B) ∨ ∃ ch, e = .panicked ch ∧ C ch) :
    (∃ ch, e = .panicked ch ∧ C ch) ∨ ∃ t, e = .returned (.bool t) ∧ (t = true ∧ A ∨ t = false ∧ B) := by
  rcases h with ⟨h, a⟩ | ⟨h, b⟩ | h
  · exact .inr ⟨true, h, .inl ⟨rfl, a⟩⟩
  · exact .inr ⟨false, h, .inr ⟨rfl, b⟩⟩
  · exact .inl h
theorem box_cell {W : World} {c : Nat} {v : Value} {t : TypeId} (h : W.heap[c]? = some (.cells #[v] t (0, 0))) : W.cell? ⟨c, 0, none⟩ = some v := by simp [World.cell?, h]
theorem box_frozen {W : World} {c : Nat} {v : Value} {t : TypeId} (h : W.heap[c]? = some (.cells #[v] t (0, 0))) : W.frozen? ⟨c, 0, none⟩ = false := by simp [World.frozen?, h]
set_option maxHeartbeats 4000000 in
theorem lines_seq (s : ByteArray) (c : Nat) (hp : s.size ≤ 140737488355328) :
    SeqS Tryz.prog 30 #[.pointer (some ⟨c, 0, none⟩)] (fun i => #[lineV s i]) (linesC s.data.toList).length c 9 (restV s) := by
  intro l JA JB Jx Jp W hJA hJB hJx hK hS hY h0
  have hc0 := box_cell (hK 0 W h0)
  refine callsIn_of_wp Tryz.func30 rfl trivial ?_ rfl
  simp only [Tryz.ntmps30, List.size_toArray, List.length_cons, List.length_nil, Nat.reduceAdd, Nat.reduceSub, Array.replicate_succ, Array.replicate_zero, List.push_toArray, List.append_toArray, List.nil_append, List.cons_append]
  gi_wp2
  gi_loopg [3, 4] (linesC s.data.toList).length (fun k _ _ wr => ∃ j : Nat, k + j = (linesC s.data.toList).length ∧ JA j wr)
  case atStart => exact ⟨0, by omega, h0⟩
  case round =>
    obtain ⟨j, hk, hj⟩ := hrel
    have hcb := hK _ _ hj
    have hc := box_cell hcb
    have hcf := box_frozen hcb
    clear hcb
    by_cases hlt : j < (linesC s.data.toList).length
    · have hS1 := hS j wr hlt hj
      have hY1 := fun A hA => hY j A hA hlt
      have hln : lineV s j = .string (mkB (lnF (restL s.data.toList j))) := by unfold lineV; rw [line_get _ _ hlt]
      have hrs : restV s (j + 1) = .string (mkB (lnD (restL s.data.toList j))) := rfl
      have hrn := (rest_ne _ _).1 hlt
      have hlen := rest_len s.data.toList j
      have hsz : s.data.toList.length = s.size := by simp
      unfold restV at hc
      rw [hrs] at hS1
      simp only [hln] at hY1
      obtain ⟨gp, rfl⟩ : ∃ gp, gk = gp + 1 := ⟨gk - 1, by omega⟩
      have HGK := Lib.hid hk
      obtain ⟨rl, hrl⟩ : ∃ rl, restL s.data.toList j = rl := ⟨_, rfl⟩
      have hrv : restV s (j + 1) = .string (mkB (lnD rl)) := by rw [hrs, hrl]
      rw [hrl] at hc hS1 hrn hlen
      simp only [hrl] at hY1
      clear hk hln hrs hrl
      by_cases hm : (10 : UInt8) ∈ rl
      · obtain ⟨p, r, rfl, hp10⟩ := first_of hm
        obtain ⟨e1, e2⟩ := lnF_hit p r hp10
        rw [e1] at hY1
        rw [e2] at hS1
        have hI := fun W => Tryz.strings_IndexByte (mkB (p ++ 10 :: r)) 10 W
        have hix : Lib.indexByte (mkB (p ++ 10 :: r)).data.toList ((10 : Int).toNat.toUInt8) = p.length := idx_hit p r hp10
        rw [hix] at hI
        have hsz2 : (mkB (p ++ 10 :: r)).size = p.length + 1 + r.length := by rw [mkB_size]; simp; omega
        have s1 := fun w => str_to (mkB (p ++ 10 :: r)) (p.length + 1) (by omega) w
        have s2 := fun w => str_from (mkB (p ++ 10 :: r)) (p.length + 1) (by omega) w
        have t1 : (mkB (p ++ 10 :: r)).data.toList.take (p.length + 1) = p ++ [10] := by rw [mkB_toList, List.take_append, List.take_of_length_le (by omega)]; simp
        have t2 : (mkB (p ++ 10 :: r)).data.toList.drop (p.length + 1) = r := by rw [mkB_toList, List.drop_append]; simp
        rw [t1] at s1
        rw [t2] at s2
        have hpl : p.length + 1 + r.length ≤ 140737488355328 := by simp at hlen; omega
        generalize mkB (p ++ 10 :: r) = R at *
        generalize mkB (p ++ [10]) = L at *
        obtain ⟨R2, hR2⟩ : ∃ R2, mkB r = R2 := ⟨_, rfl⟩
        have HRV : Hid (restV s (j + 1) = .string R2) := Lib.hid (by rw [hrv, e2, hR2])
        rw [hR2] at hS1 s2
        clear hR2
        obtain ⟨m, hm1⟩ : ∃ m, p.length + 1 = m := ⟨_, rfl⟩
        rw [hm1] at s1 s2 hsz2 hpl
        have hd : IntKind.i64.wrap ((p.length : Int) + 1) = (m : Int) := (IntWalk.i64_in _ ⟨by omega, by omega⟩).trans (by omega)
        have hR0 : (0 : Int) < R.size := by omega
        have hp0 : (0 : Int) ≤ p.length := by omega
        clear hm1 t1 t2 hix e1 e2 hp10 hm hrn hlen hsz hsz2 hpl hrv
        generalize p.length = n at *
        gi_wp2_with (refine ⟨trivial, rfl, ?_⟩; refine (callsIn_wide.2 (hI _)).mono ?_; rintro e w5 ⟨rfl, h5⟩; subst h5)
        refine wpIn_wide.2 ?_
        go_still_tail 9, (by kernel_rfl)
        change wpList _ _ _ _ _ w5.drew
        have hj6 := hJA _ _ _ hj ((Ext.refl w5).drew)
        have hc6 := box_cell (hK _ _ hj6)
        have hcf6 := box_frozen (hK _ _ hj6)
        have hS6 := hS j w5.drew hlt hj6
        clear hS1 hj hc hcf hj6
        generalize w5.drew = w6 at *
        rw [show restV s (j + 1) = .string R2 from HRV.out] at hS6
        obtain ⟨fn, tmps, assign, body, hy, hR⟩ := hY1 _ hS6
        go_wp2
        gi_wp2_with fail
        refine ⟨rfl, ?_⟩
        refine hR.mono ?_
        intro e W3 h3
        rcases yield_cases h3 with ⟨ch, rfl, hp3⟩ | ⟨t, rfl, h4⟩
        · exact ⟨rfl, .inr ⟨j, ch, hlt, rfl, hp3⟩⟩
        · clear h3
          rcases h4 with ⟨rfl, hj3⟩ | ⟨rfl, hx3⟩
          · gi_wp2
            gi_roundg gp
            case measure => omega
            case rel => exact ⟨j + 1, by have := HGK.out; omega, hj3⟩
          · gi_wp2
            refine bodyPost_ret (results_none rfl _ _ _) rfl ?_
            exact .inl ⟨⟨_, rfl⟩, .inr ⟨j, hlt, hx3⟩⟩
      · obtain ⟨e1, e2⟩ := lnF_none rl hm
        rw [e1] at hY1
        rw [e2] at hS1
        have hI := fun W => Tryz.strings_IndexByte (mkB rl) 10 W
        have hix : Lib.indexByte (mkB rl).data.toList ((10 : Int).toNat.toUInt8) = -1 := idx_none rl hm
        rw [hix] at hI
        have hR0 : (0 : Int) < (mkB rl).size := by
          rw [mkB_size]
          cases rl with
          | nil => exact absurd rfl hrn
          | cons x r => simp
        have e3 : mkB [] = ⟨#[]⟩ := rfl
        rw [e3] at hS1
        generalize mkB rl = R at *
        clear hix e1 e2 hm hrn hlen hsz e3 hrv
        gi_wp2_with (refine ⟨trivial, rfl, ?_⟩; refine (callsIn_wide.2 (hI _)).mono ?_; rintro e w5 ⟨rfl, h5⟩; subst h5; obtain ⟨fn, tmps, assign, body, hy, hR⟩ := hY1 _ hS1)
        refine ⟨rfl, ?_⟩
        refine hR.mono ?_
        intro e W3 h3
        rcases yield_cases h3 with ⟨ch, rfl, hp3⟩ | ⟨t, rfl, h4⟩
        · exact ⟨rfl, .inr ⟨j, ch, hlt, rfl, hp3⟩⟩
        · clear h3
          rcases h4 with ⟨rfl, hj3⟩ | ⟨rfl, hx3⟩
          · gi_wp2
            gi_roundg gp
            case measure => omega
            case rel => exact ⟨j + 1, by have := HGK.out; omega, hj3⟩
          · gi_wp2
            refine bodyPost_ret (results_none rfl _ _ _) rfl ?_
            exact .inl ⟨⟨_, rfl⟩, .inr ⟨j, hlt, hx3⟩⟩
    · have he : restL s.data.toList j = [] := by
        cases h : restL s.data.toList j with
        | nil => rfl
        | cons x r => exact absurd ((rest_ne s.data.toList j).2 (by rw [h]; simp)) hlt
      obtain rfl : j = (linesC s.data.toList).length := by omega
      unfold restV at hc
      rw [he] at hc
      have e3 : mkB [] = ⟨#[]⟩ := rfl
      rw [e3] at hc
      clear he e3
      gi_wp2
      go_end0
      exact .inl ⟨⟨_, rfl⟩, .inl hj⟩
end Go.Proofs.YtpobjheodlkkiaaGreatDoor
