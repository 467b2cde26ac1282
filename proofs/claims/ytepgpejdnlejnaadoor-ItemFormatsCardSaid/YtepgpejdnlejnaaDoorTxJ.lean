/- Cut of the reference, at "; ". -/
import Derived.Test.YtepgpejdnlejnaaDoorTxF
import Derived.Test.YtepgpejdnlejnaaDoorQ03
namespace Go.Proofs.YtepgpejdnlejnaaDoor
open Go.RowKit Go.Maps
set_option linter.unusedVariables false
set_option linter.unusedSimpArgs false
set_option linter.unusedSectionVars false
set_option maxRecDepth 20000
attribute [local go_sem] Oper.semAt_some

def pend (p : List UInt8) : List (List UInt8) → List (List UInt8)
  | [] => [p]
  | q :: r => (p ++ q) :: r
theorem pend_hdc (p : List UInt8) (x : UInt8) (l : List (List UInt8)) (h : l ≠ []) : pend p (hdc x l) = pend (p ++ [x]) l := by
  cases l with
  | nil => exact absurd rfl h
  | cons a l => simp [hdc, pend]
theorem pend_nil (l : List (List UInt8)) (h : l ≠ []) : pend [] l = l := by
  cases l with
  | nil => exact absurd rfl h
  | cons a l => rfl
theorem cutS_short (t : List UInt8) (h : t.length ≤ 1) : cutS t = [t] := by
  match t, h with
  | [], _ => rw [cutS]
  | [x], _ => rw [cutS_cons x [] (fun e => by simp at e), cutS]; rfl
theorem cutS_len : ∀ (n : Nat) (t : List UInt8), t.length ≤ n → (cutS t).length ≤ t.length + 1
  | _, [], _ => by rw [cutS]; simp
  | 0, x :: r, h => by simp at h
  | n + 1, x :: r, h => by
    by_cases hc : x = 59 ∧ r.head? = some 32
    · obtain ⟨rfl, h2⟩ := hc
      cases r with
      | nil => simp at h2
      | cons y r =>
        simp only [List.head?_cons, Option.some.injEq] at h2
        subst h2
        have := cutS_len n r (by simp at h; omega)
        rw [cutS_sep]
        simp only [List.length_cons]
        omega
    · have := cutS_len n r (by simp at h; omega)
      rw [cutS_cons _ _ hc]
      cases hh : cutS r with
      | nil => simp [hdc]
      | cons a l => rw [hh] at this; simp [hdc] at *; omega
def cutSB (s : ByteArray) : List ByteArray := (cutS s.data.toList).map mkB
structure CutRel2 (s : ByteArray) (i f : Nat) (out : List ByteArray) : Prop where
  le : f ≤ i
  size : i ≤ s.size
  out : cutS s.data.toList = out.map (·.data.toList) ++ pend ((s.data.toList.take i).drop f) (cutS (s.data.toList.drop i))
theorem CutRel2.start (s : ByteArray) : CutRel2 s 0 0 [] := ⟨Nat.le_refl _, Nat.zero_le _, by simp [pend_nil _ (cutS_ne _)]⟩
theorem two_of (s : ByteArray) (i : Nat) (h : i + 2 ≤ s.size) : (s.data.toList.take (i + 2)).drop i = [byteU s i, byteU s (i + 1)] := by
  rw [piece_snoc s (i + 1) i (by omega) (by omega), piece_snoc s i i (Nat.le_refl _) (by omega)]
  simp
theorem CutRel2.miss {s : ByteArray} {i f : Nat} {out : List ByteArray} (h : CutRel2 s i f out) (hi : i + 2 ≤ s.size) (hc : ¬ (byteU s i = 59 ∧ byteU s (i + 1) = 32)) : CutRel2 s (i + 1) f out := by
  refine ⟨by have := h.le; omega, by omega, ?_⟩
  rw [h.out, byteU_drop s i (by omega), cutS_cons _ _ (fun e => hc ⟨e.1, by
    have := e.2
    rw [byteU_drop s (i + 1) (by omega)] at this
    simpa using this⟩), pend_hdc _ _ _ (cutS_ne _), ← piece_snoc s i f h.le (by omega)]
theorem CutRel2.hit {s : ByteArray} {i f : Nat} {out : List ByteArray} (h : CutRel2 s i f out) (hi : i + 2 ≤ s.size) (hc : byteU s i = 59 ∧ byteU s (i + 1) = 32) : CutRel2 s (i + 2) (i + 2) (out ++ [mkB ((s.data.toList.take i).drop f)]) := by
  refine ⟨Nat.le_refl _, hi, ?_⟩
  rw [h.out, byteU_drop s i (by omega), byteU_drop s (i + 1) (by omega), hc.1, hc.2, cutS_sep, List.map_append]
  have e : (s.data.toList.take (i + 2)).drop (i + 2) = [] := List.drop_eq_nil_of_le (by rw [List.length_take]; omega)
  rw [e, pend_nil _ (cutS_ne _)]
  simp [pend, mkB_toList]
theorem CutRel2.done {s : ByteArray} {i f : Nat} {out : List ByteArray} (h : CutRel2 s i f out) (hi : s.size < i + 2) : cutSB s = out ++ [mkB (s.data.toList.drop f)] := by
  have hl : s.data.toList.length = s.size := by simp
  unfold cutSB
  rw [h.out, cutS_short (s.data.toList.drop i) (by rw [List.length_drop]; omega)]
  have e : (s.data.toList.take i).drop f ++ s.data.toList.drop i = s.data.toList.drop f := by
    conv => rhs; rw [← List.take_append_drop i s.data.toList]
    rw [List.drop_append_of_le_length (by rw [List.length_take]; have := h.le; have := h.size; omega)]
  simp only [pend, e, List.map_append, List.map_map, List.map_cons, List.map_nil]
  congr 1
  exact List.map_id'' (fun x => rfl) _
theorem CutRel2.len {s : ByteArray} {i f : Nat} {out : List ByteArray} (h : CutRel2 s i f out) : out.length ≤ s.size := by
  have h1 := cutS_len _ s.data.toList (Nat.le_refl _)
  have hl : s.data.toList.length = s.size := by simp
  rw [h.out, List.length_append, List.length_map] at h1
  have : 1 ≤ (pend ((s.data.toList.take i).drop f) (cutS (s.data.toList.drop i))).length := by
    cases cutS (s.data.toList.drop i) <;> simp [pend]
  omega
def CutR2 (s : ByteArray) (w : World) (v f i : Value) (wr : World) : Prop :=
  ∃ (k q : Nat) (out : List ByteArray), i = .int .i64 k ∧ f = .int .i64 q ∧ OwnS wr w.heap.size v out ∧ CutRel2 s k q out ∧ Ext w wr
theorem two_eq (a b : UInt8) (h : a = 59 ∧ b = 32) : mkB [a, b] = ⟨#[59, 32]⟩ := by rw [h.1, h.2]; rfl
theorem two_ne {a b : UInt8} (h : ¬ (a = 59 ∧ b = 32)) : ((mkB [a, b]).toList == (⟨#[59, 32]⟩ : ByteArray).toList) = false := by
  rw [Lib.toList_data, Lib.toList_data, mkB_toList]
  have : ¬ [a, b] = ([59, 32] : List UInt8) := fun e => by
    injection e with e1 e2
    injection e2 with e2 _
    exact h ⟨e1, e2⟩
  simpa using this
set_option maxHeartbeats 4000000 in
theorem rcut2_any (s : ByteArray) (hs : s.size ≤ 1000000) (w : World) :
    Calls Tryd.prog 87 #[.string s, .string ⟨#[59, 32]⟩] w fun e w' => ∃ v, e = .returned v ∧ OwnS w' w.heap.size v (cutSB s) ∧ Ext w w' := by
  go_enter Tryd.func87, Tryd.ntmps87
  go_wp2
  go_loopw [5, 6, 7] (fun v f i wr => CutR2 s w v f i wr) (fun _ _ i _ => s.size - (intOf i).toNat)
  case atStart => exact ⟨0, 0, [], rfl, rfl, OwnG.nil _ _ _ _ _, CutRel2.start s, Ext.refl w⟩
  case round =>
    obtain ⟨k, q, out, rfl, rfl, hown, hrel, hx⟩ := hrel
    have d1 : IntKind.i64.wrap ((k : Int) + 1) = (k : Int) + 1 := IntWalk.i64_in _ ⟨by have := hrel.size; omega, by have := hrel.size; omega⟩
    have d2 : IntKind.i64.wrap ((k : Int) + 2) = (k : Int) + 2 := IntWalk.i64_in _ ⟨by have := hrel.size; omega, by have := hrel.size; omega⟩
    by_cases hlt : k + 2 ≤ s.size
    · have c1 : (k : Int) + 2 ≤ s.size := by omega
      have hsl := fun w => str_mid s k (k + 2) (by omega) hlt w
      rw [two_of s k hlt] at hsl
      simp only [show ((k + 2 : Nat) : Int) = (k : Int) + 2 from by omega] at hsl
      obtain ⟨Y, hY⟩ : ∃ Y, (⟨#[59, 32]⟩ : ByteArray) = Y := ⟨_, rfl⟩
      have y1 : Y.size = 2 := by rw [← hY]; rfl
      by_cases hc : byteU s k = 59 ∧ byteU s (k + 1) = 32
      · have HN := Lib.hid (hrel.hit hlt hc)
        have hln := hrel.len
        have hm := fun w => str_mid s q k hrel.le hrel.size w
        rw [two_eq _ _ hc, hY] at hsl
        rw [hY]
        clear hrel hc hY
        generalize mkB ((s.data.toList.take k).drop q) = X at *
        have HO := Lib.hid hown
        clear hown
        go_wp2_with (at_builtin; refine wpList_app_G _ elemS rfl _ _ rfl (base := w.heap.size) rfl (HO.out.ext ((Ext.refl _).alloc _)) (m := [X]) rfl (SlG.one elemS.hk _ ?c1 ?c2) ?c3 ?c4 ?c5 ?c6 ?_)
        case c1 => rfl
        all_goals first
          | (intro e; cases e; done)
          | (have := hln; have := hx.size; omega; done)
          | (have := hln; have := hx.size; simp; omega; done)
          | skip
        intro v' w3 hown' hbl
        have hx3 : Ext w w3 := below_ext (hx.alloc _) hbl (Nat.le_refl _)
        go_wp2
        go_roundw
        case rel => exact ⟨k + 2, k + 2, out ++ [X], by go_num, by go_num, hown', HN.out, hx3⟩
        case measure => simp [intOf, d2]; omega
      · have HN := Lib.hid (hrel.miss hlt hc)
        have hne := two_ne hc
        rw [hY] at hne
        rw [hY]
        generalize mkB [byteU s k, byteU s (k + 1)] = X at *
        clear hrel hc hY
        go_wp2
        go_roundw
        case rel => exact ⟨k + 1, q, out, by go_num, rfl, hown, HN.out, hx⟩
        case measure => simp [intOf, d1]; omega
    · have c1 : ¬ (k : Int) + 2 ≤ s.size := by omega
      have HN := Lib.hid (hrel.done (by omega))
      have hln := hrel.len
      have hm := fun w => str_from s q (Nat.le_trans hrel.le hrel.size) w
      obtain ⟨Y, hY⟩ : ∃ Y, (⟨#[59, 32]⟩ : ByteArray) = Y := ⟨_, rfl⟩
      have y1 : Y.size = 2 := by rw [← hY]; rfl
      rw [hY]
      clear hrel hY
      generalize mkB (s.data.toList.drop q) = X at *
      have HO := Lib.hid hown
      clear hown
      go_wp2_with (at_builtin; refine wpList_app_G _ elemS rfl _ _ rfl (base := w.heap.size) rfl (HO.out.ext ((Ext.refl _).alloc _)) (m := [X]) rfl (SlG.one elemS.hk _ ?k1 ?k2) ?k3 ?k4 ?k5 ?k6 ?_)
      case k1 => rfl
      all_goals first
        | (intro e; cases e; done)
        | (have := hln; have := hx.size; omega; done)
        | (have := hln; have := hx.size; simp; omega; done)
        | skip
      intro v' w3 hown' hbl
      have hx3 : Ext w w3 := below_ext (hx.alloc _) hbl (Nat.le_refl _)
      go_wp2
      go_ret
      exact ⟨v', rfl, by rw [HN.out]; exact hown', hx3⟩
end Go.Proofs.YtepgpejdnlejnaaDoor
