/- CaS; ItOA; ItOB; ItOC; ItOD (merged by group.py) -/
import Derived.Test.YtcbinafokhekmaaDoorQ10
import Derived.Test.YtcbinafokhekmaaDoorQ06
import Derived.Test.YtcbinafokhekmaaDoorShelf
import Derived.Test.YtcbinafokhekmaaDoorQ04
import Derived.Test.YtcbinafokhekmaaDoorQ05
import Derived.Laws.Cover1
import Derived.Deep.RegionHeld3
namespace Go.Proofs.YtcbinafokhekmaaDoor
section
open Go.RowKit
set_option linter.unusedVariables false
set_option maxRecDepth 20000
set_option linter.unusedSimpArgs false
set_option linter.unusedSectionVars false
set_option maxRecDepth 100000
attribute [local go_sem] Oper.semAt_some

theorem CtO.start (w : World) (h r : Nat) : CtO (w.alloc (.cells #[.int .i64 h, .int .i64 r, .slice none 0 0] 69)) (fun k => k = w.heap.size) w.heap.size h r none 0 [] :=
  ⟨BoxN.new w _ _, OwnG.nil _ _ _ _ _, (fun i x hi => by simp at hi), (fun x hx => by simp at hx), rfl, (fun a ha => by cases ha), (fun i x a hi => by simp at hi), (fun i j x y a b hi => by simp at hi), (fun k hk => by subst hk; simp)⟩
set_option maxHeartbeats 4000000 in
theorem new_yes (h r : Nat) (w : World) (hB : rightB h r = true) :
    Calls Tryd.prog 17 #[.int .i64 h, .int .i64 r] w fun e w' => (∃ t P c F, e = .returned (.tuple #[.pointer (some ⟨t, 0, none⟩), .int .i64 0]) ∧ CtO w' F t h r P c (repB h) ∧ ∀ k, F k → w.heap.size ≤ k) ∧ Ext w w' := by
  have hS := fun W => sized_any (h : Int) (r : Int) W
  rw [hB] at hS
  have hh : 1 ≤ h ∧ h ≤ 100 ∧ 1 ≤ r ∧ r ≤ 20 := by have := of_decide_eq_true hB; omega
  have hst := CtO.start w h r
  have hx0 := (Ext.refl w).alloc (.cells #[.int .i64 h, .int .i64 r, .slice none 0 0] 69)
  go_enter Tryd.func17, Tryd.ntmps17
  go_wp2_with (go_at_call 25; refine (hS _).mono ?_; rintro e w1 ⟨rfl, rfl⟩)
  generalize hW : w.alloc (.cells #[.int .i64 h, .int .i64 r, .slice none 0 0] 69) = W at *
  clear hW
  go_loopw [16] (fun i wr => ∃ (j : Nat) (P : Option Addr) (c : Nat) (F : Nat → Prop), j ≤ h ∧ i = .int .i64 j ∧ CtO wr F w.heap.size h r P c (repB j) ∧ (∀ k, F k → w.heap.size ≤ k) ∧ Ext w wr) (fun i _ => h - (intOf i).toNat)
  case atStart => exact ⟨0, none, 0, _, by omega, rfl, hst, fun k hk => by omega, hx0⟩
  case round =>
    obtain ⟨j, P, c, F, hj, rfl, H, hF, hx⟩ := hrel
    by_cases hlt : j < h
    · have cj : (j : Int) < h := by omega
      have d1 : IntKind.i64.wrap ((j : Int) + 1) = (j : Int) + 1 := IntWalk.i64_in _ ⟨by omega, by omega⟩
      have a2 := H.box.cell (i := 2) rfl
      rw [repB_len] at a2
      have H1 := H.ext ((Ext.refl wr).alloc (.cells #[.slice none 0 0, .int .i64 (-1)] 34))
      have HO := Lib.hid H1
      have hown := H1.own
      rw [repB_len] at hown
      have hwr := H.box.lt
      clear hst H1 H
      go_wp2_with (at_builtin; refine wpList_app_U _ elemBk rfl _ _ rfl (base := 0) rfl hown (m := [bk0]) rfl (SlG.one elemBk.hk _ ?c1 ?c2) ?c3 ?c4 ?c5 ?c6 ?_)
      all_goals first
        | rfl
        | (intro e; cases e; done)
        | (simp; done)
        | (rw [repB_len]; simp; omega; done)
        | (simp; omega; done)
        | skip
      intro v7 w7 ho7 hg7 hb7 hob7
      obtain ⟨P7, c7, F', rfl, e7, f7, H7, g1, g2, g3⟩ := HO.out.push ho7 (by rw [repB_len]; exact hg7) (by rw [repB_len]; simpa using hob7) (by rw [repB_len]; omega)
      rw [repB_len] at e7 H7 g3
      rw [show (repB j ++ [((none, 0, []), -1)] : List BkR) = repB (j + 1) from (repB_succ j).symm] at H7
      have HH7 := Lib.hid H7
      have HX7 := Lib.hid (g3.ext (hx.alloc (.cells #[.slice none 0 0, .int .i64 (-1)] 34)) hF)
      rw [repB_len]
      have HF := Lib.hid (show ∀ k, F' k → w.heap.size ≤ k from fun k hk => by
        rcases g2 k hk with h1 | h1
        · exact hF k h1
        · have := hx.size; simp at h1; omega)
      clear H7 ho7 hg7 hb7 hob7 hown g1 g2 g3 a2
      go_wp2
      go_roundw
      case rel => exact ⟨j + 1, P7, c7, F', by omega, by go_num, HH7.out, HF.out, HX7.out⟩
      case measure => simp [intOf]; omega
    · obtain rfl : j = h := by omega
      go_wp2
      go_ret2
      exact ⟨⟨w.heap.size, P, c, F, rfl, H, hF⟩, hx⟩
theorem new_no (h r : Int) (w : World) (hB : rightB h r = false) :
    Calls Tryd.prog 17 #[.int .i64 h, .int .i64 r] w fun e w' => e = .returned (.tuple #[.pointer none, .int .i64 7]) ∧ w = w' := by
  have hS := fun W => sized_any h r W
  rw [hB] at hS
  go_enter Tryd.func17, Tryd.ntmps17
  go_wp2_with (go_at_call 25; refine (hS _).mono ?_; rintro e w1 ⟨rfl, rfl⟩)
  go_ret2
  exact ⟨rfl, rfl⟩
/-- a table of the reference's and an answer -/
def TabPostE (FF : Nat → Prop) (h r : Nat) (T : List (Bkt Hd)) (code : Int) (w : World) (e : Ending) (w' : World) : Prop := ∃ v l', e = .returned (.tuple #[.agg #[.int .i64 h, .int .i64 r, v], .int .i64 code]) ∧ NewB w' w.heap.size v l' ∧ absT l' = T ∧ (∀ x ∈ l', OffH FF x.1.1 x.1.2.2) ∧ Ext w w'
/-- the results of a call: a struct in its box (the block g) is overwritten, then it is returned -/
theorem tabPost_box {FF : Nat → Prop} {h r : Nat} {T : List (Bkt Hd)} {w w2 : World} {g base : Nat} {v : Value} {l' : List BkR} (hb : BoxN w2 g 42 #[.int .i64 0, .int .i64 0, .slice none 0 0]) (hg : w.heap.size ≤ g) (hn : NewB w2 base v l') (hgb : g < base) (ha : absT l' = T) (ho : ∀ x ∈ l', OffH FF x.1.1 x.1.2.2) (hgo : ∀ x ∈ l', OffH (fun i => i = g) x.1.1 x.1.2.2) (hx : Ext w w2) :
    let W := ((w2.setCell ⟨g, 0, none⟩ (.int .i64 h)).setCell ⟨g, 1, none⟩ (.int .i64 r)).setCell ⟨g, 2, none⟩ v
    NewB W w.heap.size v l' ∧ absT l' = T ∧ (∀ x ∈ l', OffH FF x.1.1 x.1.2.2) ∧ Ext w W ∧ W.cell? ⟨g, 0, none⟩ = some (.int .i64 h) ∧ W.cell? ⟨g, 1, none⟩ = some (.int .i64 r) ∧ W.cell? ⟨g, 2, none⟩ = some v := by
  have hB3 := ((hb.set 0 (.int .i64 h)).set 1 (.int .i64 r)).set 2 v
  have hu := (((UpdF.refl (fun i => i = g) w2).setCell (p := ⟨g, 0, none⟩) (.inl rfl) (.int .i64 h)).setCell (p := ⟨g, 1, none⟩) (.inl rfl) (.int .i64 r)).setCell (p := ⟨g, 2, none⟩) (.inl rfl) v
  exact ⟨(hn.upd hu (fun g' hg' e => by have := (own_lt hn.own hg').1; omega) hgo).lower (by omega), ha, ho, hu.ext hx (fun i hi => by omega), hB3.cell (i := 0) rfl, hB3.cell (i := 1) rfl, hB3.cell (i := 2) rfl⟩
end
section
open Go.RowKit
set_option linter.unusedVariables false
set_option maxRecDepth 20000
set_option linter.unusedSimpArgs false
set_option linter.unusedSectionVars false
set_option maxRecDepth 20000
attribute [local go_sem] Oper.semAt_some

def lessF (a b : Int) : Int := if a < b then -1 else if b < a then 1 else 0
theorem less_any (a b : Int) (w : World) : Calls Tryd.prog 84 #[.int .i64 a, .int .i64 b] w fun e w' => e = .returned (.int .i64 (lessF a b)) ∧ w' = w := by
  unfold lessF
  by_cases h1 : a < b
  · rw [if_pos h1]
    go_enter Tryd.func84, Tryd.ntmps84
    go_wp2
    go_ret
    exact ⟨rfl, rfl⟩
  · rw [if_neg h1]
    have h1' : decide (a < b) = false := decide_eq_false h1
    by_cases h2 : b < a
    · rw [if_pos h2]
      clear h1
      go_enter Tryd.func84, Tryd.ntmps84
      go_wp2
      go_ret
      exact ⟨rfl, rfl⟩
    · rw [if_neg h2]
      have h2' : decide (b < a) = false := decide_eq_false h2
      clear h1 h2
      go_enter Tryd.func84, Tryd.ntmps84
      go_wp2
      go_ret
      exact ⟨rfl, rfl⟩


def textsF (s t : ByteArray) : Int := if Op.bytesLess s.toList t.toList = true then -1 else if s.toList = t.toList then 0 else 1

theorem less_app : ∀ (p s t : List UInt8), Op.bytesLess (p ++ s) (p ++ t) = Op.bytesLess s t
  | [], s, t => rfl
  | x :: p, s, t => by
    have := less_app p s t
    simp [Op.bytesLess, this]
theorem texts_app (p s t : List UInt8) : (if Op.bytesLess (p ++ s) (p ++ t) = true then (-1 : Int) else if p ++ s = p ++ t then 0 else 1) = (if Op.bytesLess s t = true then (-1 : Int) else if s = t then 0 else 1) := by
  rw [less_app]
  simp
theorem take_same {s t : ByteArray} {k : Nat} (h1 : k ≤ s.size) (h2 : k ≤ t.size) (he : ∀ j, j < k → byteU s j = byteU t j) : s.toList.take k = t.toList.take k := by
  rw [Lib.toList_data, Lib.toList_data]
  apply List.ext_getElem?
  intro j
  have a1 : s.data.toList.length = s.size := by simp
  have a2 : t.data.toList.length = t.size := by simp
  by_cases hj : j < k
  · have := he j hj
    unfold byteU at this
    rw [List.getElem?_take_of_lt hj, List.getElem?_take_of_lt hj]
    rw [List.getD_eq_getElem?_getD, List.getD_eq_getElem?_getD, List.getElem?_eq_getElem (by omega), List.getElem?_eq_getElem (by omega)] at this
    rw [List.getElem?_eq_getElem (by omega), List.getElem?_eq_getElem (by omega)]
    simpa using this
  · rw [List.getElem?_eq_none (by simp; omega), List.getElem?_eq_none (by simp; omega)]
theorem drop_byte {s : ByteArray} {k : Nat} (h : k < s.size) : s.toList.drop k = byteU s k :: s.toList.drop (k + 1) := by
  rw [Lib.toList_data]
  have a1 : s.data.toList.length = s.size := by simp
  rw [List.drop_eq_getElem_cons (by omega)]
  congr 1
  unfold byteU
  rw [List.getD_eq_getElem?_getD, List.getElem?_eq_getElem (by omega)]
  rfl
theorem texts_split {s t : ByteArray} {k : Nat} (h1 : k ≤ s.size) (h2 : k ≤ t.size) (he : ∀ j, j < k → byteU s j = byteU t j) :
    textsF s t = (if Op.bytesLess (s.toList.drop k) (t.toList.drop k) = true then (-1 : Int) else if s.toList.drop k = t.toList.drop k then 0 else 1) := by
  have := texts_app (s.toList.take k) (s.toList.drop k) (t.toList.drop k)
  rw [← this]
  unfold textsF
  conv => rhs; rw [List.take_append_drop, take_same h1 h2 he, List.take_append_drop]
theorem texts_diff {s t : ByteArray} {k : Nat} (h1 : k < s.size) (h2 : k < t.size) (he : ∀ j, j < k → byteU s j = byteU t j) (hne : ¬ byteN s k = byteN t k) : textsF s t = lessF (byteN s k - byteN t k) 0 := by
  rw [texts_split (by omega) (by omega) he, drop_byte h1, drop_byte h2]
  rw [byteU_N s k h1, byteU_N t k h2] at hne ⊢
  have hn : ¬ byteU s k = byteU t k := fun e => hne (by rw [e])
  unfold lessF
  by_cases hl : byteU s k < byteU t k
  · have := UInt8.lt_iff_toNat_lt.1 hl
    have e1 : Op.bytesLess (byteU s k :: s.toList.drop (k + 1)) (byteU t k :: t.toList.drop (k + 1)) = true := by simp [Op.bytesLess, hl]
    rw [if_pos e1, if_pos (by omega)]
  · have h3 : ¬ (byteU s k).toNat < (byteU t k).toNat := fun h => hl (UInt8.lt_iff_toNat_lt.2 h)
    have e1 : ¬ Op.bytesLess (byteU s k :: s.toList.drop (k + 1)) (byteU t k :: t.toList.drop (k + 1)) = true := by simp [Op.bytesLess, hl, hn]
    have e2 : ¬ byteU s k :: s.toList.drop (k + 1) = byteU t k :: t.toList.drop (k + 1) := by simp [hn]
    rw [if_neg e1, if_neg e2, if_neg (by omega), if_pos (by omega)]
theorem texts_end {s t : ByteArray} {k : Nat} (h1 : k ≤ s.size) (h2 : k ≤ t.size) (hk : k = s.size ∨ k = t.size) (he : ∀ j, j < k → byteU s j = byteU t j) : textsF s t = lessF ((s.size : Int) - t.size) 0 := by
  rw [texts_split h1 h2 he]
  have a1 : (s.toList.drop k).length = s.size - k := by rw [Lib.toList_data]; simp
  have a2 : (t.toList.drop k).length = t.size - k := by rw [Lib.toList_data]; simp
  generalize s.toList.drop k = x at *
  generalize t.toList.drop k = y at *
  unfold lessF
  cases x with
  | nil =>
    cases y with
    | nil => simp at a1 a2; simp [Op.bytesLess]; omega
    | cons c y => simp at a1 a2; simp [Op.bytesLess]; omega
  | cons b x =>
    cases y with
    | nil => simp at a1 a2; simp [Op.bytesLess]; omega
    | cons c y => simp at a1 a2; omega
theorem sign_any (n : Int) (w : World) : Calls Tryd.prog 93 #[.int .i64 n] w fun e w' => e = .returned (.int .i64 (lessF n 0)) ∧ w = w' := by
  unfold lessF
  by_cases h1 : n < 0
  · rw [if_pos h1]
    go_enter Tryd.func93, Tryd.ntmps93
    go_wp2
    go_ret
    exact ⟨rfl, rfl⟩
  · rw [if_neg h1]
    have h1' : decide (n < 0) = false := decide_eq_false h1
    by_cases h2 : 0 < n
    · rw [if_pos h2]
      clear h1
      go_enter Tryd.func93, Tryd.ntmps93
      go_wp2
      go_ret
      exact ⟨rfl, rfl⟩
    · rw [if_neg h2]
      have h2' : decide (0 < n) = false := decide_eq_false h2
      clear h1 h2
      go_enter Tryd.func93, Tryd.ntmps93
      go_wp2
      go_ret
      exact ⟨rfl, rfl⟩
set_option maxHeartbeats 4000000 in
theorem texts_any (s t : ByteArray) (w : World) (hs : s.size ≤ 140737488355328) (ht : t.size ≤ 140737488355328) :
    Calls Tryd.prog 88 #[.string s, .string t] w fun e w' => e = .returned (.int .i64 (textsF s t)) ∧ Ext w w' := by
  go_enter Tryd.func88, Tryd.ntmps88
  go_wp2
  go_loopw [5] (fun i wr => ∃ k : Nat, k ≤ s.size ∧ k ≤ t.size ∧ i = .int .i64 k ∧ (∀ j, j < k → byteU s j = byteU t j) ∧ Ext w wr) (fun i _ => s.size - (intOf i).toNat)
  case atStart => exact ⟨0, by omega, by omega, rfl, by intro j hj; omega, Ext.refl w⟩
  case round =>
    obtain ⟨k, hk, hk2, rfl, hall, hx⟩ := hrel
    have hsub : IntKind.i64.wrap ((s.size : Int) - t.size) = (s.size : Int) - t.size := IntWalk.i64_in _ ⟨by omega, by omega⟩
    by_cases h1 : k < s.size
    · have c1 : (k : Int) < s.size := by omega
      by_cases h2 : k < t.size
      · have c2 : (k : Int) < t.size := by omega
        have d1 : IntKind.i64.wrap ((k : Int) + 1) = (k : Int) + 1 := IntWalk.i64_in _ ⟨by omega, by omega⟩
        have i1 := fun w => str_index s k h1 w
        have i2 := fun w => str_index t k h2 w
        have b1 := byteN_in s k
        have b2 := byteN_in t k
        by_cases he : byteN s k = byteN t k
        · have Hy : Hid (∀ j, j < k + 1 → byteU s j = byteU t j) := Lib.hid (fun j hj => by
            by_cases hjk : j = k
            · subst hjk
              rw [byteU_N s j h1, byteU_N t j h2] at he
              exact UInt8.toNat_inj.1 (by omega)
            · exact hall j (by omega))
          rw [he] at i1
          clear hall he
          generalize byteN t k = y at *
          go_wp2
          go_quiet (fail)
          go_wp2
          go_roundw
          case rel => exact ⟨k + 1, by omega, by omega, by go_num, Hy.out, hx.drewN _⟩
          case measure => simp [intOf]; omega
        · have Hn : Hid (textsF s t = lessF (byteN s k - byteN t k) 0) := Lib.hid (texts_diff h1 h2 hall he)
          have d2 : IntKind.i64.wrap (byteN s k - byteN t k) = byteN s k - byteN t k := IntWalk.i64_in _ ⟨by omega, by omega⟩
          have he1 : (byteN s k == byteN t k) = false := by simpa using he
          have he2 : (byteN s k != byteN t k) = true := by simpa using he
          have w1 : IntKind.i64.wrap (byteN s k) = byteN s k := IntWalk.i64_in _ ⟨by omega, by omega⟩
          have w2 : IntKind.i64.wrap (byteN t k) = byteN t k := IntWalk.i64_in _ ⟨by omega, by omega⟩
          have hS := fun W => sign_any (byteN s k - byteN t k) W
          clear hall he
          generalize byteN s k = x at *
          generalize byteN t k = y at *
          go_wp2
          go_quiet (fail)
          go_wp2
          go_quiet ((go_at_call 93; first | exact quiet_left (hS _) | exact quiet_add_left (hS _)))
          go_wp2
          go_ret
          exact ⟨by rw [Hn.out]; rfl, by first | exact hx.drewN _ | exact (hx.drewN _).drewN _⟩
      · have c2 : decide ((k : Int) < t.size) = false := decide_eq_false (by omega)
        have hno := Lib.hid h2
        have Hn := Lib.hid (texts_end (s := s) (t := t) hk hk2 (by omega) hall)
        have hS := fun W => sign_any ((s.size : Int) - t.size) W
        clear hall h2
        go_wp2_with (go_at_call 93; refine (hS _).mono ?_; rintro e w1 ⟨rfl, rfl⟩)
        all_goals first
          | (exfalso; have := hno.out; omega)
          | (go_ret
             exact ⟨by rw [Hn.out]; rfl, hx⟩)
    · have c1 : decide ((k : Int) < s.size) = false := decide_eq_false (by omega)
      have hno := Lib.hid h1
      have Hn := Lib.hid (texts_end (s := s) (t := t) hk hk2 (by omega) hall)
      have hS := fun W => sign_any ((s.size : Int) - t.size) W
      clear hall h1
      go_wp2_with (go_at_call 93; refine (hS _).mono ?_; rintro e w1 ⟨rfl, rfl⟩)
      all_goals first
        | (exfalso; have := hno.out; omega)
        | (go_ret
           exact ⟨by rw [Hn.out]; rfl, hx⟩)
end
section
open Go.RowKit
set_option linter.unusedVariables false
set_option maxRecDepth 20000
set_option linter.unusedSimpArgs false
set_option linter.unusedSectionVars false
set_option maxRecDepth 20000
attribute [local go_sem] Oper.semAt_some

abbrev SlN := @SlG Int (fun x => [.int .i64 x])
def nthN (l : List Int) (i : Nat) : Int := l.getD i 0
theorem nthN_some {l : List Int} {i : Nat} (h : i < l.length) : l[i]? = some (nthN l i) := by simp [nthN, List.getD_eq_getElem?_getD, h]
theorem numAt {w : World} {P : Option Addr} {cap : Nat} {l : List Int} (h : SlN w P cap l) (i : Nat) (hi : i < l.length) :
    ∃ b off, P = some ⟨b, off, none⟩ ∧ w.cell? ⟨b, off + i, none⟩ = some (.int .i64 (nthN l i)) := by
  obtain ⟨b, off, e, h1⟩ := h.at_ i _ (nthN_some hi)
  exact ⟨b, off, e, by have := h1 0 _ rfl; simpa using this⟩
def firstNZ : List Int → Int
  | [] => 0
  | x :: r => if x = 0 then firstNZ r else x
theorem firstNZ_at : ∀ (l : List Int) (k : Nat) (x : Int), l[k]? = some x → (∀ j, j < k → l[j]? = some 0) → ¬ x = 0 → firstNZ l = x
  | [], k, x, h, _, _ => by simp at h
  | y :: l, 0, x, h, _, hx => by simp at h; subst h; simp [firstNZ, hx]
  | y :: l, k + 1, x, h, h0, hx => by
    have := h0 0 (by omega)
    simp at this
    subst this
    simp only [firstNZ, if_pos]
    exact firstNZ_at l k x (by simpa using h) (fun j hj => by have := h0 (j + 1) (by omega); simpa using this) hx
theorem firstNZ_no : ∀ (l : List Int), (∀ j, j < l.length → l[j]? = some 0) → firstNZ l = 0
  | [], _ => rfl
  | y :: l, h0 => by
    have := h0 0 (by simp)
    simp at this
    subst this
    simp only [firstNZ, if_pos]
    exact firstNZ_no l (fun j hj => by have := h0 (j + 1) (by simp; omega); simpa using this)

def cmpF (x y : Vl) : Int := firstNZ [lessF x.1 y.1, lessF x.2.1 y.2.1, textsF x.2.2 y.2.2]
theorem slN_three {w w1 : World} {a b c : Int} {t : TypeId} (hx : Ext (w.alloc (.cells #[.int .i64 a, .int .i64 b, .int .i64 c] t)) w1) : SlN w1 (some ⟨w.heap.size, 0, none⟩) 3 [a, b, c] := by
  refine ⟨fun i x hi => ⟨_, _, rfl, fun j v hj => ?_⟩, by simp, by omega⟩
  have key := box1 hx
  match j, hj with
  | 0, hj =>
    simp at hj
    subst hj
    match i, hi with
    | 0, hi => simp at hi; subst hi; exact key 0 _ rfl
    | 1, hi => simp at hi; subst hi; exact key 1 _ rfl
    | 2, hi => simp at hi; subst hi; exact key 2 _ rfl
    | i + 3, hi => simp at hi
  | j + 1, hj => simp at hj


theorem lessF_refl (a : Int) : lessF a a = 0 := by simp [lessF]
set_option maxHeartbeats 4000000 in
theorem rcompare_any (x y : Vl) (w : World) (hs : x.2.2.size ≤ 140737488355328) (ht : y.2.2.size ≤ 140737488355328) : Calls Tryd.prog 83 #[x.v, y.v] w fun e w' => e = .returned (.int .i64 (cmpF x y)) ∧ Ext w w' := by
  have H1 := Lib.hid (show cmpF x y = firstNZ [lessF x.1 y.1, lessF x.2.1 y.2.1, textsF x.2.2 y.2.2] from rfl)
  obtain ⟨a, n, s⟩ := x
  obtain ⟨b, m, t⟩ := y
  show Calls _ _ #[.agg #[.int .i64 a, .int .i64 n, .string s], .agg #[.int .i64 b, .int .i64 m, .string t]] _ _
  simp only at H1 hs ht
  have hC := fun W => texts_any s t W hs ht
  generalize textsF s t = z3 at *
  by_cases q1 : lessF a b = 0
  · by_cases q2 : lessF n m = 0
    · have HB := Lib.hid (H1.out.trans (show firstNZ [lessF a b, lessF n m, z3] = z3 from by simp [firstNZ, q1, q2]; intro h; exact h.symm))
      have Q1 := Lib.hid q1
      have Q2 := Lib.hid q2
      clear q1 q2 H1
      go_enter Tryd.func83, Tryd.ntmps83
      go_wp2_with (first
        | (go_at_call 84; refine (less_any _ _ _).mono ?_; rintro e w2 ⟨rfl, rfl⟩; first | rw [Q1.out] | rw [Q2.out] | skip)
        | (go_at_call 88; refine (hC _).mono ?_; rintro e w4 ⟨rfl, x4⟩))
      go_ret
      exact ⟨by rw [HB.out]; rfl, by (repeat (first | exact Ext.refl _ | assumption | refine Ext.alloc ?_ _ | refine Ext.trans ?_ x4)); done⟩
    · have HB := Lib.hid (H1.out.trans (show firstNZ [lessF a b, lessF n m, z3] = lessF n m from by simp [firstNZ, q1, q2]))
      have q3 : (lessF n m == 0) = false := by simpa using q2
      have q4 : (lessF n m != 0) = true := by simpa using q2
      have Q1 := Lib.hid q1
      have Q2 : Hid (lessF a b = 0) := Q1
      clear q1 q2 H1
      go_enter Tryd.func83, Tryd.ntmps83
      go_wp2_with (first
        | (go_at_call 84; refine (less_any _ _ _).mono ?_; rintro e w2 ⟨rfl, rfl⟩; first | rw [Q1.out] | rw [Q2.out] | skip)
        | (go_at_call 88; refine (hC _).mono ?_; rintro e w4 ⟨rfl, x4⟩))
      go_ret
      exact ⟨by rw [HB.out]; rfl, by (repeat (first | exact Ext.refl _ | assumption | refine Ext.alloc ?_ _ | refine Ext.trans ?_ x4)); done⟩
  · have HB := Lib.hid (H1.out.trans (show firstNZ [lessF a b, lessF n m, z3] = lessF a b from by simp [firstNZ, q1]))
    have q3 : (lessF a b == 0) = false := by simpa using q1
    have q4 : (lessF a b != 0) = true := by simpa using q1
    have Q1 : Hid ((0 : Int) = 0) := Lib.hid rfl
    have Q2 := Q1
    clear q1 H1
    go_enter Tryd.func83, Tryd.ntmps83
    go_wp2_with (first
      | (go_at_call 84; refine (less_any _ _ _).mono ?_; rintro e w2 ⟨rfl, rfl⟩; first | rw [Q1.out] | rw [Q2.out] | skip)
      | (go_at_call 88; refine (hC _).mono ?_; rintro e w4 ⟨rfl, x4⟩))
    go_ret
    exact ⟨by rw [HB.out]; rfl, by (repeat (first | exact Ext.refl _ | assumption | refine Ext.alloc ?_ _ | refine Ext.trans ?_ x4)); done⟩
end
section
open Go.RowKit
set_option linter.unusedVariables false
set_option maxRecDepth 20000
set_option linter.unusedSimpArgs false
set_option linter.unusedSectionVars false
set_option maxRecDepth 20000
attribute [local go_sem] Oper.semAt_some

def crF : List Vl → List Vl → Int
  | [], [] => 0
  | [], _ :: _ => -1
  | _ :: _, [] => 1
  | x :: l, y :: m => if cmpF x y = 0 then crF l m else cmpF x y
theorem crF_at : ∀ (l m : List Vl) (k : Nat), k < l.length → k < m.length → (∀ j, j < k → cmpF (nthV l j) (nthV m j) = 0) → ¬ cmpF (nthV l k) (nthV m k) = 0 → crF l m = cmpF (nthV l k) (nthV m k)
  | [], m, k, h, _, _, _ => by simp at h
  | x :: l, [], k, _, h, _, _ => by simp at h
  | x :: l, y :: m, 0, _, _, _, hn => by
    have e1 : nthV (x :: l) 0 = x := rfl
    have e2 : nthV (y :: m) 0 = y := rfl
    rw [e1, e2] at hn ⊢
    simp [crF, hn]
  | x :: l, y :: m, k + 1, h1, h2, h0, hn => by
    have e := h0 0 (by omega)
    have e1 : nthV (x :: l) 0 = x := rfl
    have e2 : nthV (y :: m) 0 = y := rfl
    rw [e1, e2] at e
    have e3 : ∀ j, nthV (x :: l) (j + 1) = nthV l j := fun j => by simp [nthV]
    have e4 : ∀ j, nthV (y :: m) (j + 1) = nthV m j := fun j => by simp [nthV]
    rw [e3, e4] at hn ⊢
    simp only [crF, if_pos e]
    exact crF_at l m k (by simpa using h1) (by simpa using h2) (fun j hj => by have := h0 (j + 1) (by omega); rwa [e3, e4] at this) hn
theorem crF_end : ∀ (l m : List Vl) (k : Nat), k ≤ l.length → k ≤ m.length → (k = l.length ∨ k = m.length) → (∀ j, j < k → cmpF (nthV l j) (nthV m j) = 0) → crF l m = lessF l.length m.length
  | [], [], k, _, _, _, _ => by simp [crF, lessF]
  | [], y :: m, k, _, _, _, _ => by simp only [crF, lessF, List.length_nil, List.length_cons]; rw [if_pos (by omega)]
  | x :: l, [], k, _, _, _, _ => by simp only [crF, lessF, List.length_nil, List.length_cons]; rw [if_neg (by omega), if_pos (by omega)]
  | x :: l, y :: m, 0, _, _, h, _ => by simp at h
  | x :: l, y :: m, k + 1, h1, h2, h3, h0 => by
    have e := h0 0 (by omega)
    have e1 : nthV (x :: l) 0 = x := rfl
    have e2 : nthV (y :: m) 0 = y := rfl
    rw [e1, e2] at e
    have e3 : ∀ j, nthV (x :: l) (j + 1) = nthV l j := fun j => by simp [nthV]
    have e4 : ∀ j, nthV (y :: m) (j + 1) = nthV m j := fun j => by simp [nthV]
    have := crF_end l m k (by simpa using h1) (by simpa using h2) (by simpa using h3) (fun j hj => by have := h0 (j + 1) (by omega); rwa [e3, e4] at this)
    simp only [crF, if_pos e, this]
    unfold lessF
    have e5 : (((x :: l).length : Int) < ((y :: m).length : Int)) = ((l.length : Int) < (m.length : Int)) := propext (by simp only [List.length_cons]; omega)
    have e6 : (((y :: m).length : Int) < ((x :: l).length : Int)) = ((m.length : Int) < (l.length : Int)) := propext (by simp only [List.length_cons]; omega)
    simp only [e5, e6]



set_option maxHeartbeats 4000000 in
theorem rcmprows_any (P Q : Option Addr) (cap cap2 : Nat) (l m : List Vl) (w : World) (h : SlV w P cap l) (h2 : SlV w Q cap2 m) (o1 : ∀ x ∈ l, x.2.2.size ≤ 140737488355328) (o2 : ∀ x ∈ m, x.2.2.size ≤ 140737488355328) :
    Calls Tryd.prog 73 #[.slice P l.length cap, .slice Q m.length cap2] w fun e w' => e = .returned (.int .i64 (crF l m)) ∧ Ext w w' := by
  have hlen := h.len
  have hlen2 := h2.len
  go_enter Tryd.func73, Tryd.ntmps73
  go_wp2
  go_loopw [5, 6] (fun i _ wr => ∃ k : Nat, k ≤ l.length ∧ k ≤ m.length ∧ i = .int .i64 k ∧ (∀ j, j < k → cmpF (nthV l j) (nthV m j) = 0) ∧ Ext w wr) (fun i _ _ => l.length - (intOf i).toNat)
  case atStart => exact ⟨0, by omega, by omega, rfl, by intro j hj; omega, Ext.refl w⟩
  case round =>
    obtain ⟨k, hk, hk2, rfl, hall, hx⟩ := hrel
    by_cases hlt : k < l.length
    · have c1 : (k : Int) < l.length := by omega
      have d1 : IntKind.i64.wrap ((k : Int) + 1) = (k : Int) + 1 := IntWalk.i64_in _ ⟨by omega, by omega⟩
      by_cases hlt2 : k < m.length
      · have hs1 := o1 _ (nthV_mem hlt)
        have hs2 := o2 _ (nthV_mem hlt2)
        obtain ⟨b, off, hP, p0, p1, p2⟩ := h.valAt k hlt
        obtain ⟨b2, off2, hQ, q0, q1, q2⟩ := h2.valAt k hlt2
        subst hP
        subst hQ
        have p0 := hx.cell p0
        have p1 := hx.cell p1
        have p2 := hx.cell p2
        have q0 := hx.cell q0
        have q1 := hx.cell q1
        have q2 := hx.cell q2
        have hb2 : b2 < wr.heap.size := block_lt q0
        have c2 : (k : Int) < m.length := by omega
        have hb : b < wr.heap.size := block_lt p0
        have hV := fun W => rcompare_any (nthV l k) (nthV m k) W hs1 hs2
        unfold Vl.v at hV
        by_cases he : cmpF (nthV l k) (nthV m k) = 0
        · have Hy : Hid (∀ j, j < k + 1 → cmpF (nthV l j) (nthV m j) = 0) := Lib.hid (fun j hj => by
            by_cases hjk : j = k
            · subst hjk; exact he
            · exact hall j (by omega))
          rw [he] at hV
          generalize nthV l k = x at *
          generalize nthV m k = y at *
          clear hall he
          go_wp2
          go_region_held3 (fun w' => w'.cell? ⟨b, off + k * 3, none⟩ = some (.int .i64 x.1) ∧ w'.cell? ⟨b, off + k * 3 + 1, none⟩ = some (.int .i64 x.2.1) ∧ w'.cell? ⟨b, off + k * 3 + 2, none⟩ = some (.string x.2.2) ∧ w'.cell? ⟨b2, off2 + k * 3, none⟩ = some (.int .i64 y.1) ∧ w'.cell? ⟨b2, off2 + k * 3 + 1, none⟩ = some (.int .i64 y.2.1) ∧ w'.cell? ⟨b2, off2 + k * 3 + 2, none⟩ = some (.string y.2.2)) (first | go_keep | ((try dsimp only); (repeat' apply And.intro); all_goals first | go_keep | (refine Ext.cell ?_ p0; (repeat (first | exact Ext.refl _ | assumption | refine Ext.drew ?_ | refine Ext.drewN ?_ _ | refine Ext.alloc ?_ _ | refine Ext.trans ?_ x4 | refine Ext.trans ?_ x3)); done) | (refine Ext.cell ?_ p1; (repeat (first | exact Ext.refl _ | assumption | refine Ext.drew ?_ | refine Ext.drewN ?_ _ | refine Ext.alloc ?_ _ | refine Ext.trans ?_ x4 | refine Ext.trans ?_ x3)); done) | (refine Ext.cell ?_ p2; (repeat (first | exact Ext.refl _ | assumption | refine Ext.drew ?_ | refine Ext.drewN ?_ _ | refine Ext.alloc ?_ _ | refine Ext.trans ?_ x4 | refine Ext.trans ?_ x3)); done) | (refine Ext.cell ?_ q0; (repeat (first | exact Ext.refl _ | assumption | refine Ext.drew ?_ | refine Ext.drewN ?_ _ | refine Ext.alloc ?_ _ | refine Ext.trans ?_ x4 | refine Ext.trans ?_ x3)); done) | (refine Ext.cell ?_ q1; (repeat (first | exact Ext.refl _ | assumption | refine Ext.drew ?_ | refine Ext.drewN ?_ _ | refine Ext.alloc ?_ _ | refine Ext.trans ?_ x4 | refine Ext.trans ?_ x3)); done) | (refine Ext.cell ?_ q2; (repeat (first | exact Ext.refl _ | assumption | refine Ext.drew ?_ | refine Ext.drewN ?_ _ | refine Ext.alloc ?_ _ | refine Ext.trans ?_ x4 | refine Ext.trans ?_ x3)); done)))
            (first
              | (go_at_call 83; refine (hV _).mono ?_; rintro e w3 ⟨rfl, x3⟩)
              | fail)
          go_wp2
          go_roundw
          case rel => exact ⟨k + 1, by omega, by omega, by go_num, Hy.out, by (repeat (first | exact Ext.refl _ | assumption | refine Ext.drew ?_ | refine Ext.drewN ?_ _ | refine Ext.alloc ?_ _ | refine Ext.trans ?_ x4 | refine Ext.trans ?_ x3)); done⟩
          case measure => simp [intOf]; omega
        · have Hn := Lib.hid (crF_at l m k hlt hlt2 hall he)
          have he1 : (cmpF (nthV l k) (nthV m k) == 0) = false := by simpa using he
          have he2 : (cmpF (nthV l k) (nthV m k) != 0) = true := by simpa using he
          clear hall he
          generalize cmpF (nthV l k) (nthV m k) = z at *
          generalize nthV l k = x at *
          generalize nthV m k = y at *
          go_wp2
          go_region_held3 (fun w' => w'.cell? ⟨b, off + k * 3, none⟩ = some (.int .i64 x.1) ∧ w'.cell? ⟨b, off + k * 3 + 1, none⟩ = some (.int .i64 x.2.1) ∧ w'.cell? ⟨b, off + k * 3 + 2, none⟩ = some (.string x.2.2) ∧ w'.cell? ⟨b2, off2 + k * 3, none⟩ = some (.int .i64 y.1) ∧ w'.cell? ⟨b2, off2 + k * 3 + 1, none⟩ = some (.int .i64 y.2.1) ∧ w'.cell? ⟨b2, off2 + k * 3 + 2, none⟩ = some (.string y.2.2)) (first | go_keep | ((try dsimp only); (repeat' apply And.intro); all_goals first | go_keep | (refine Ext.cell ?_ p0; (repeat (first | exact Ext.refl _ | assumption | refine Ext.drew ?_ | refine Ext.drewN ?_ _ | refine Ext.alloc ?_ _ | refine Ext.trans ?_ x4 | refine Ext.trans ?_ x3)); done) | (refine Ext.cell ?_ p1; (repeat (first | exact Ext.refl _ | assumption | refine Ext.drew ?_ | refine Ext.drewN ?_ _ | refine Ext.alloc ?_ _ | refine Ext.trans ?_ x4 | refine Ext.trans ?_ x3)); done) | (refine Ext.cell ?_ p2; (repeat (first | exact Ext.refl _ | assumption | refine Ext.drew ?_ | refine Ext.drewN ?_ _ | refine Ext.alloc ?_ _ | refine Ext.trans ?_ x4 | refine Ext.trans ?_ x3)); done) | (refine Ext.cell ?_ q0; (repeat (first | exact Ext.refl _ | assumption | refine Ext.drew ?_ | refine Ext.drewN ?_ _ | refine Ext.alloc ?_ _ | refine Ext.trans ?_ x4 | refine Ext.trans ?_ x3)); done) | (refine Ext.cell ?_ q1; (repeat (first | exact Ext.refl _ | assumption | refine Ext.drew ?_ | refine Ext.drewN ?_ _ | refine Ext.alloc ?_ _ | refine Ext.trans ?_ x4 | refine Ext.trans ?_ x3)); done) | (refine Ext.cell ?_ q2; (repeat (first | exact Ext.refl _ | assumption | refine Ext.drew ?_ | refine Ext.drewN ?_ _ | refine Ext.alloc ?_ _ | refine Ext.trans ?_ x4 | refine Ext.trans ?_ x3)); done)))
            (first
              | (go_at_call 83; refine (hV _).mono ?_; rintro e w3 ⟨rfl, x3⟩)
              | fail)
          go_wp2
          go_ret
          exact ⟨by rw [Hn.out]; rfl, by (repeat (first | exact Ext.refl _ | assumption | refine Ext.drew ?_ | refine Ext.drewN ?_ _ | refine Ext.alloc ?_ _ | refine Ext.trans ?_ x4 | refine Ext.trans ?_ x3)); done⟩
      · have c2 : decide ((k : Int) < m.length) = false := decide_eq_false (by omega)
        have Hn := Lib.hid (crF_end l m k hk hk2 (by omega) hall)
        have hno := Lib.hid hlt2
        clear hall hlt2
        go_wp2_with (go_at_call 84; refine (less_any _ _ _).mono ?_; rintro e w1 ⟨rfl, rfl⟩)
        all_goals first
          | (exfalso; have := hno.out; omega)
          | (go_ret
             exact ⟨by rw [Hn.out]; rfl, hx⟩)
    · have c1 : decide ((k : Int) < l.length) = false := decide_eq_false (by omega)
      have Hn := Lib.hid (crF_end l m k hk hk2 (by omega) hall)
      have hno := Lib.hid hlt
      clear hall hlt
      go_wp2_with (go_at_call 84; refine (less_any _ _ _).mono ?_; rintro e w1 ⟨rfl, rfl⟩)
      all_goals first
        | (exfalso; have := hno.out; omega)
        | (go_ret
           exact ⟨by rw [Hn.out]; rfl, hx⟩)
end
section
open Go.RowKit
set_option linter.unusedVariables false
set_option maxRecDepth 20000
set_option linter.unusedSimpArgs false
set_option linter.unusedSectionVars false
set_option maxRecDepth 20000

/-- an order, told by -1, 0, 1 -/
structure Ord3 {α : Type} (c : α → α → Int) : Prop where
  rng : ∀ x y, c x y = -1 ∨ c x y = 0 ∨ c x y = 1
  anti : ∀ x y, c x y = - c y x
  eq0 : ∀ x y, c x y = 0 ↔ x = y
  trans : ∀ x y z, c x y ≤ 0 → c y z ≤ 0 → c x z ≤ 0
def lexL {α : Type} (c : α → α → Int) : List α → List α → Int
  | [], [] => 0
  | [], _ :: _ => -1
  | _ :: _, [] => 1
  | x :: l, y :: m => if c x y = 0 then lexL c l m else c x y
def lex2 {α β : Type} (c : α → α → Int) (d : β → β → Int) (x y : α × β) : Int := if c x.1 y.1 = 0 then d x.2 y.2 else c x.1 y.1
theorem ord_less : Ord3 lessF := by
  refine ⟨fun x y => ?_, fun x y => ?_, fun x y => ?_, fun x y z => ?_⟩ <;> unfold lessF <;> (repeat' split) <;> omega
theorem ord_lex2 {α β : Type} {c : α → α → Int} {d : β → β → Int} (hc : Ord3 c) (hd : Ord3 d) : Ord3 (lex2 c d) := by
  refine ⟨fun x y => ?_, fun x y => ?_, fun x y => ?_, fun x y z => ?_⟩
  · unfold lex2
    split
    · exact hd.rng _ _
    · exact hc.rng _ _
  · unfold lex2
    have h1 := hc.anti x.1 y.1
    by_cases h : c x.1 y.1 = 0
    · rw [if_pos h, if_pos (by omega)]; exact hd.anti _ _
    · rw [if_neg h, if_neg (by omega)]; exact h1
  · obtain ⟨x1, x2⟩ := x
    obtain ⟨y1, y2⟩ := y
    unfold lex2
    simp only [Prod.mk.injEq]
    by_cases h : c x1 y1 = 0
    · rw [if_pos h, hd.eq0, ← hc.eq0 x1 y1]
      simp [h]
    · rw [if_neg h, ← hc.eq0 x1 y1]
      simp [h]
  · obtain ⟨x1, x2⟩ := x
    obtain ⟨y1, y2⟩ := y
    obtain ⟨z1, z2⟩ := z
    unfold lex2
    simp only
    intro h1 h2
    by_cases a : c x1 y1 = 0
    · rw [if_pos a] at h1
      obtain rfl := (hc.eq0 _ _).1 a
      by_cases b : c x1 z1 = 0
      · rw [if_pos b] at h2 ⊢
        exact hd.trans _ _ _ h1 h2
      · rw [if_neg b] at h2 ⊢
        exact h2
    · rw [if_neg a] at h1
      by_cases b : c y1 z1 = 0
      · obtain rfl := (hc.eq0 _ _).1 b
        rw [if_neg a]
        exact h1
      · rw [if_neg b] at h2
        have h3 := hc.trans _ _ _ h1 h2
        have h4 : ¬ c x1 z1 = 0 := fun e => by
          obtain rfl := (hc.eq0 _ _).1 e
          have := hc.anti x1 y1
          have := hc.rng x1 y1
          omega
        rw [if_neg h4]
        exact h3
theorem ord_lexL {α : Type} {c : α → α → Int} (hc : Ord3 c) : Ord3 (lexL c) := by
  refine ⟨?_, ?_, ?_, ?_⟩
  · intro x
    induction x with
    | nil => intro y; cases y <;> simp [lexL]
    | cons a x ih =>
      intro y
      cases y with
      | nil => simp [lexL]
      | cons b y =>
        simp only [lexL]
        split
        · exact ih y
        · exact hc.rng _ _
  · intro x
    induction x with
    | nil => intro y; cases y <;> simp [lexL]
    | cons a x ih =>
      intro y
      cases y with
      | nil => simp [lexL]
      | cons b y =>
        have h1 := hc.anti a b
        simp only [lexL]
        by_cases h : c a b = 0
        · rw [if_pos h, if_pos (by omega)]; exact ih y
        · rw [if_neg h, if_neg (by omega)]; exact h1
  · intro x
    induction x with
    | nil => intro y; cases y <;> simp [lexL]
    | cons a x ih =>
      intro y
      cases y with
      | nil => simp [lexL]
      | cons b y =>
        simp only [lexL, List.cons.injEq]
        by_cases h : c a b = 0
        · rw [if_pos h, ih, ← hc.eq0 a b]
          simp [h]
        · rw [if_neg h, ← hc.eq0 a b]
          simp [h]
  · intro x
    induction x with
    | nil => intro y z h1 h2; cases y <;> cases z <;> simp [lexL] at *
    | cons a x ih =>
      intro y z
      cases y with
      | nil => intro h1 h2; simp [lexL] at h1
      | cons b y =>
        cases z with
        | nil => intro h1 h2; simp [lexL] at h2
        | cons d z =>
          simp only [lexL]
          intro h1 h2
          by_cases p : c a b = 0
          · rw [if_pos p] at h1
            obtain rfl := (hc.eq0 _ _).1 p
            by_cases q : c a d = 0
            · rw [if_pos q] at h2 ⊢
              exact ih y z h1 h2
            · rw [if_neg q] at h2 ⊢
              exact h2
          · rw [if_neg p] at h1
            by_cases q : c b d = 0
            · obtain rfl := (hc.eq0 _ _).1 q
              rw [if_neg p]
              exact h1
            · rw [if_neg q] at h2
              have h3 := hc.trans _ _ _ h1 h2
              have h4 : ¬ c a d = 0 := fun e => by
                obtain rfl := (hc.eq0 _ _).1 e
                have := hc.anti a b
                have := hc.rng a b
                omega
              rw [if_neg h4]
              exact h3
def lessU (a b : UInt8) : Int := lessF a.toNat b.toNat
theorem ord_lessU : Ord3 lessU := by
  refine ⟨fun x y => ord_less.rng _ _, fun x y => ord_less.anti _ _, fun x y => ?_, fun x y z => ord_less.trans _ _ _⟩
  unfold lessU
  rw [ord_less.eq0]
  exact ⟨fun h => UInt8.toNat_inj.1 (by omega), fun h => by rw [h]⟩
theorem texts_lex : ∀ (s t : List UInt8), (if Op.bytesLess s t = true then (-1 : Int) else if s = t then 0 else 1) = lexL lessU s t
  | [], [] => by simp [Op.bytesLess, lexL]
  | [], y :: t => by simp [Op.bytesLess, lexL]
  | x :: s, [] => by simp [Op.bytesLess, lexL]
  | x :: s, y :: t => by
    have ih := texts_lex s t
    simp only [lexL]
    by_cases h : x = y
    · subst h
      rw [if_pos ((ord_lessU.eq0 _ _).2 rfl), ← ih]
      simp [Op.bytesLess]
    · rw [if_neg (fun e => h ((ord_lessU.eq0 _ _).1 e))]
      unfold lessU lessF
      by_cases hl : x < y
      · have := UInt8.lt_iff_toNat_lt.1 hl
        have e1 : Op.bytesLess (x :: s) (y :: t) = true := by simp [Op.bytesLess, hl]
        rw [if_pos e1, if_pos (by omega)]
      · have h3 : ¬ x.toNat < y.toNat := fun h => hl (UInt8.lt_iff_toNat_lt.2 h)
        have h4 : x.toNat ≠ y.toNat := fun e => h (UInt8.toNat_inj.1 e)
        have e1 : ¬ Op.bytesLess (x :: s) (y :: t) = true := by simp [Op.bytesLess, hl, h]
        have e2 : ¬ x :: s = y :: t := by simp [h]
        rw [if_neg e1, if_neg e2, if_neg (by omega), if_pos (by omega)]
theorem ord_texts : Ord3 textsF := by
  have e : ∀ s t, textsF s t = lexL lessU s.toList t.toList := fun s t => texts_lex _ _
  have o := ord_lexL ord_lessU
  refine ⟨fun x y => by rw [e]; exact o.rng _ _, fun x y => by rw [e, e]; exact o.anti _ _, fun x y => ?_, fun x y z => by rw [e, e, e]; exact o.trans _ _ _⟩
  rw [e, o.eq0]
  constructor
  · intro h
    rw [Lib.toList_data, Lib.toList_data] at h
    exact ByteArray.ext (Array.ext' h)
  · intro h; rw [h]
theorem ord_cmp : Ord3 cmpF := by
  have e : ∀ x y, cmpF x y = lex2 lessF (lex2 lessF textsF) x y := fun x y => by
    unfold cmpF lex2 firstNZ firstNZ firstNZ firstNZ
    by_cases h1 : lessF x.1 y.1 = 0
    · rw [if_pos h1, if_pos h1]
      by_cases h2 : lessF x.2.1 y.2.1 = 0
      · rw [if_pos h2, if_pos h2]
        by_cases h3 : textsF x.2.2 y.2.2 = 0
        · rw [if_pos h3, h3]
        · rw [if_neg h3]
      · rw [if_neg h2, if_neg h2]
    · rw [if_neg h1, if_neg h1]
  have := ord_lex2 ord_less (ord_lex2 ord_less ord_texts)
  rwa [← show cmpF = lex2 lessF (lex2 lessF textsF) from funext fun x => funext fun y => e x y] at this
theorem ord_rows : Ord3 crF := by
  have e : ∀ l m, crF l m = lexL cmpF l m := by
    intro l
    induction l with
    | nil => intro m; cases m <;> rfl
    | cons x l ih =>
      intro m
      cases m with
      | nil => rfl
      | cons y m => simp only [crF, lexL, ih]
  have := ord_lexL ord_cmp
  rwa [← show crF = lexL cmpF from funext fun x => funext fun y => e x y] at this
end
end Go.Proofs.YtcbinafokhekmaaDoor
