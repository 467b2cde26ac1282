/- Values and rows are compared: numbers and texts. -/
import Derived.Test.YtepgpejdnlejnaaDoorItP
import Derived.Test.YtepgpejdnlejnaaDoorShelf
import Derived.Test.YtepgpejdnlejnaaDoorItT
import Derived.Laws.Cover1
import Derived.Deep.RegionHeld3
namespace Go.Proofs.YtepgpejdnlejnaaDoor
open Go.RowKit
set_option linter.unusedVariables false
set_option linter.unusedSimpArgs false
set_option linter.unusedSectionVars false
set_option maxRecDepth 20000
attribute [local go_sem] Oper.semAt_some

def lessF (a b : Int) : Int := if a < b then -1 else if b < a then 1 else 0
theorem less_any (a b : Int) (w : World) : Calls Tryd.prog 67 #[.int .i64 a, .int .i64 b] w fun e w' => e = .returned (.int .i64 (lessF a b)) ∧ w' = w := by
  unfold lessF
  by_cases h1 : a < b
  · rw [if_pos h1]
    go_enter Tryd.func67, Tryd.ntmps67
    go_wp2
    go_ret
    exact ⟨rfl, rfl⟩
  · rw [if_neg h1]
    have h1' : decide (a < b) = false := decide_eq_false h1
    by_cases h2 : b < a
    · rw [if_pos h2]
      clear h1
      go_enter Tryd.func67, Tryd.ntmps67
      go_wp2
      go_ret
      exact ⟨rfl, rfl⟩
    · rw [if_neg h2]
      have h2' : decide (b < a) = false := decide_eq_false h2
      clear h1 h2
      go_enter Tryd.func67, Tryd.ntmps67
      go_wp2
      go_ret
      exact ⟨rfl, rfl⟩
theorem cmpint_any (a b : Int) (w : World) : Calls Tryd.prog 65 #[.int .i64 a, .int .i64 b] w fun e w' => e = .returned (.int .i64 (lessF a b)) ∧ w' = w := by
  have h := Tryd.cmp_Compare_int a b w
  rw [show Lib.compareInt a b = lessF a b from by unfold Lib.compareInt lessF; rfl] at h
  exact h
theorem nanstr_any (s : ByteArray) (w : World) : Calls Tryd.prog 94 #[.string s] w fun e w' => e = .returned (.bool false) ∧ w' = w := by
  go_enter Tryd.func94, Tryd.ntmps94
  go_wp2
  go_ret
  exact ⟨by first | rfl | (simp; done), rfl⟩
def textsF (s t : ByteArray) : Int := if Op.bytesLess s.toList t.toList = true then -1 else if s.toList = t.toList then 0 else 1
theorem cmpstr_any (s t : ByteArray) (w : World) : Calls Tryd.prog 66 #[.string s, .string t] w fun e w' => e = .returned (.int .i64 (textsF s t)) ∧ w' = w := by
  unfold textsF
  cases hl : Op.bytesLess s.toList t.toList with
  | true =>
    rw [if_pos rfl]
    go_enter Tryd.func66, Tryd.ntmps66
    go_wp2_with (go_at_call 94; refine (nanstr_any _ _).mono ?_; rintro e w1 ⟨rfl, rfl⟩)
    go_ret
    exact ⟨rfl, rfl⟩
  | false =>
    rw [if_neg (by simp)]
    by_cases he : s.toList = t.toList
    · rw [if_pos he]
      have he1 : (s.toList == t.toList) = true := by simpa using he
      clear he
      go_enter Tryd.func66, Tryd.ntmps66
      go_wp2_with (go_at_call 94; refine (nanstr_any _ _).mono ?_; rintro e w1 ⟨rfl, rfl⟩)
      go_ret
      exact ⟨rfl, rfl⟩
    · rw [if_neg he]
      have he1 : (s.toList == t.toList) = false := by simpa using he
      have he2 : decide (s.toList = t.toList) = false := decide_eq_false he
      clear he
      go_enter Tryd.func66, Tryd.ntmps66
      go_wp2_with (go_at_call 94; refine (nanstr_any _ _).mono ?_; rintro e w1 ⟨rfl, rfl⟩)
      go_ret
      exact ⟨rfl, rfl⟩
theorem less_app : ∀ (p s t : List UInt8), Op.bytesLess (p ++ s) (p ++ t) = Op.bytesLess s t
  | [], s, t => rfl
  | x :: p, s, t => by
    have := less_app p s t
    simp [Op.bytesLess, this]
theorem texts_app (p s t : List UInt8) : (if Op.bytesLess (p ++ s) (p ++ t) = true then (-1 : Int) else if p ++ s = p ++ t then 0 else 1) = (if Op.bytesLess s t = true then (-1 : Int) else if s = t then 0 else 1) := by
  rw [less_app]
  simp
theorem take_same {s t : ByteArray} {k : Nat} (h1 : k ≤ s.size) (h2 : k ≤ t.size) (he : ∀ j, j < k → byteU s j = byteU t j) : s.toList.take k = t.toList.take k := by
  rw [Lib.toList_data, Lib.toList_data]
  apply List.ext_getElem?
  intro j
  have a1 : s.data.toList.length = s.size := by simp
  have a2 : t.data.toList.length = t.size := by simp
  by_cases hj : j < k
  · have := he j hj
    unfold byteU at this
    rw [List.getElem?_take_of_lt hj, List.getElem?_take_of_lt hj]
    rw [List.getD_eq_getElem?_getD, List.getD_eq_getElem?_getD, List.getElem?_eq_getElem (by omega), List.getElem?_eq_getElem (by omega)] at this
    rw [List.getElem?_eq_getElem (by omega), List.getElem?_eq_getElem (by omega)]
    simpa using this
  · rw [List.getElem?_eq_none (by simp; omega), List.getElem?_eq_none (by simp; omega)]
theorem drop_byte {s : ByteArray} {k : Nat} (h : k < s.size) : s.toList.drop k = byteU s k :: s.toList.drop (k + 1) := by
  rw [Lib.toList_data]
  have a1 : s.data.toList.length = s.size := by simp
  rw [List.drop_eq_getElem_cons (by omega)]
  congr 1
  unfold byteU
  rw [List.getD_eq_getElem?_getD, List.getElem?_eq_getElem (by omega)]
  rfl
theorem texts_split {s t : ByteArray} {k : Nat} (h1 : k ≤ s.size) (h2 : k ≤ t.size) (he : ∀ j, j < k → byteU s j = byteU t j) :
    textsF s t = (if Op.bytesLess (s.toList.drop k) (t.toList.drop k) = true then (-1 : Int) else if s.toList.drop k = t.toList.drop k then 0 else 1) := by
  have := texts_app (s.toList.take k) (s.toList.drop k) (t.toList.drop k)
  rw [← this]
  unfold textsF
  conv => rhs; rw [List.take_append_drop, take_same h1 h2 he, List.take_append_drop]
theorem texts_diff {s t : ByteArray} {k : Nat} (h1 : k < s.size) (h2 : k < t.size) (he : ∀ j, j < k → byteU s j = byteU t j) (hne : ¬ byteN s k = byteN t k) : textsF s t = lessF (byteN s k - byteN t k) 0 := by
  rw [texts_split (by omega) (by omega) he, drop_byte h1, drop_byte h2]
  rw [byteU_N s k h1, byteU_N t k h2] at hne ⊢
  have hn : ¬ byteU s k = byteU t k := fun e => hne (by rw [e])
  unfold lessF
  by_cases hl : byteU s k < byteU t k
  · have := UInt8.lt_iff_toNat_lt.1 hl
    have e1 : Op.bytesLess (byteU s k :: s.toList.drop (k + 1)) (byteU t k :: t.toList.drop (k + 1)) = true := by simp [Op.bytesLess, hl]
    rw [if_pos e1, if_pos (by omega)]
  · have h3 : ¬ (byteU s k).toNat < (byteU t k).toNat := fun h => hl (UInt8.lt_iff_toNat_lt.2 h)
    have e1 : ¬ Op.bytesLess (byteU s k :: s.toList.drop (k + 1)) (byteU t k :: t.toList.drop (k + 1)) = true := by simp [Op.bytesLess, hl, hn]
    have e2 : ¬ byteU s k :: s.toList.drop (k + 1) = byteU t k :: t.toList.drop (k + 1) := by simp [hn]
    rw [if_neg e1, if_neg e2, if_neg (by omega), if_pos (by omega)]
theorem texts_end {s t : ByteArray} {k : Nat} (h1 : k ≤ s.size) (h2 : k ≤ t.size) (hk : k = s.size ∨ k = t.size) (he : ∀ j, j < k → byteU s j = byteU t j) : textsF s t = lessF ((s.size : Int) - t.size) 0 := by
  rw [texts_split h1 h2 he]
  have a1 : (s.toList.drop k).length = s.size - k := by rw [Lib.toList_data]; simp
  have a2 : (t.toList.drop k).length = t.size - k := by rw [Lib.toList_data]; simp
  generalize s.toList.drop k = x at *
  generalize t.toList.drop k = y at *
  unfold lessF
  cases x with
  | nil =>
    cases y with
    | nil => simp at a1 a2; simp [Op.bytesLess]; omega
    | cons c y => simp at a1 a2; simp [Op.bytesLess]; omega
  | cons b x =>
    cases y with
    | nil => simp at a1 a2; simp [Op.bytesLess]; omega
    | cons c y => simp at a1 a2; omega
theorem sign_any (n : Int) (w : World) : Calls Tryd.prog 95 #[.int .i64 n] w fun e w' => e = .returned (.int .i64 (lessF n 0)) ∧ w = w' := by
  unfold lessF
  by_cases h1 : n < 0
  · rw [if_pos h1]
    go_enter Tryd.func95, Tryd.ntmps95
    go_wp2
    go_ret
    exact ⟨rfl, rfl⟩
  · rw [if_neg h1]
    have h1' : decide (n < 0) = false := decide_eq_false h1
    by_cases h2 : 0 < n
    · rw [if_pos h2]
      clear h1
      go_enter Tryd.func95, Tryd.ntmps95
      go_wp2
      go_ret
      exact ⟨rfl, rfl⟩
    · rw [if_neg h2]
      have h2' : decide (0 < n) = false := decide_eq_false h2
      clear h1 h2
      go_enter Tryd.func95, Tryd.ntmps95
      go_wp2
      go_ret
      exact ⟨rfl, rfl⟩
set_option maxHeartbeats 4000000 in
theorem texts_any (s t : ByteArray) (w : World) (hs : s.size ≤ 140737488355328) (ht : t.size ≤ 140737488355328) :
    Calls Tryd.prog 68 #[.string s, .string t] w fun e w' => e = .returned (.int .i64 (textsF s t)) ∧ Ext w w' := by
  go_enter Tryd.func68, Tryd.ntmps68
  go_wp2
  go_loopw [5] (fun i wr => ∃ k : Nat, k ≤ s.size ∧ k ≤ t.size ∧ i = .int .i64 k ∧ (∀ j, j < k → byteU s j = byteU t j) ∧ Ext w wr) (fun i _ => s.size - (intOf i).toNat)
  case atStart => exact ⟨0, by omega, by omega, rfl, by intro j hj; omega, Ext.refl w⟩
  case round =>
    obtain ⟨k, hk, hk2, rfl, hall, hx⟩ := hrel
    have hsub : IntKind.i64.wrap ((s.size : Int) - t.size) = (s.size : Int) - t.size := IntWalk.i64_in _ ⟨by omega, by omega⟩
    by_cases h1 : k < s.size
    · have c1 : (k : Int) < s.size := by omega
      by_cases h2 : k < t.size
      · have c2 : (k : Int) < t.size := by omega
        have d1 : IntKind.i64.wrap ((k : Int) + 1) = (k : Int) + 1 := IntWalk.i64_in _ ⟨by omega, by omega⟩
        have i1 := fun w => str_index s k h1 w
        have i2 := fun w => str_index t k h2 w
        have b1 := byteN_in s k
        have b2 := byteN_in t k
        by_cases he : byteN s k = byteN t k
        · have Hy : Hid (∀ j, j < k + 1 → byteU s j = byteU t j) := Lib.hid (fun j hj => by
            by_cases hjk : j = k
            · subst hjk
              rw [byteU_N s j h1, byteU_N t j h2] at he
              exact UInt8.toNat_inj.1 (by omega)
            · exact hall j (by omega))
          rw [he] at i1
          clear hall he
          generalize byteN t k = y at *
          go_wp2
          go_quiet (fail)
          go_wp2
          go_roundw
          case rel => exact ⟨k + 1, by omega, by omega, by go_num, Hy.out, hx.drewN _⟩
          case measure => simp [intOf]; omega
        · have Hn : Hid (textsF s t = lessF (byteN s k - byteN t k) 0) := Lib.hid (texts_diff h1 h2 hall he)
          have d2 : IntKind.i64.wrap (byteN s k - byteN t k) = byteN s k - byteN t k := IntWalk.i64_in _ ⟨by omega, by omega⟩
          have he1 : (byteN s k == byteN t k) = false := by simpa using he
          have he2 : (byteN s k != byteN t k) = true := by simpa using he
          have w1 : IntKind.i64.wrap (byteN s k) = byteN s k := IntWalk.i64_in _ ⟨by omega, by omega⟩
          have w2 : IntKind.i64.wrap (byteN t k) = byteN t k := IntWalk.i64_in _ ⟨by omega, by omega⟩
          have hS := fun W => sign_any (byteN s k - byteN t k) W
          clear hall he
          generalize byteN s k = x at *
          generalize byteN t k = y at *
          go_wp2
          go_quiet (fail)
          go_wp2
          go_quiet ((go_at_call 95; first | exact quiet_left (hS _) | exact quiet_add_left (hS _)))
          go_wp2
          go_ret
          exact ⟨by rw [Hn.out]; rfl, by first | exact hx.drewN _ | exact (hx.drewN _).drewN _⟩
      · have c2 : decide ((k : Int) < t.size) = false := decide_eq_false (by omega)
        have hno := Lib.hid h2
        have Hn := Lib.hid (texts_end (s := s) (t := t) hk hk2 (by omega) hall)
        have hS := fun W => sign_any ((s.size : Int) - t.size) W
        clear hall h2
        go_wp2_with (go_at_call 95; refine (hS _).mono ?_; rintro e w1 ⟨rfl, rfl⟩)
        all_goals first
          | (exfalso; have := hno.out; omega)
          | (go_ret
             exact ⟨by rw [Hn.out]; rfl, hx⟩)
    · have c1 : decide ((k : Int) < s.size) = false := decide_eq_false (by omega)
      have hno := Lib.hid h1
      have Hn := Lib.hid (texts_end (s := s) (t := t) hk hk2 (by omega) hall)
      have hS := fun W => sign_any ((s.size : Int) - t.size) W
      clear hall h1
      go_wp2_with (go_at_call 95; refine (hS _).mono ?_; rintro e w1 ⟨rfl, rfl⟩)
      all_goals first
        | (exfalso; have := hno.out; omega)
        | (go_ret
           exact ⟨by rw [Hn.out]; rfl, hx⟩)
end Go.Proofs.YtepgpejdnlejnaaDoor
