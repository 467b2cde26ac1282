/- Cut of the reference. -/
import Derived.Test.YtpobjheodlkkiaaGreatDoorTxS
import Derived.Deep.LoopGhost
namespace Go.Proofs.YtpobjheodlkkiaaGreatDoor
open Go.RowKit Go.Maps
set_option linter.unusedVariables false
set_option linter.unusedSimpArgs false
set_option linter.unusedSectionVars false
set_option maxRecDepth 20000
attribute [local go_sem] Oper.semAt_some

/-- where the cutting stands: the pieces before from are cut, no c from there up to i -/
structure CutRel (c : UInt8) (s : ByteArray) (i f : Nat) (out : List ByteArray) : Prop where
  le : f ≤ i
  size : i ≤ s.size
  no : c ∉ (s.data.toList.take i).drop f
  out : cutB c s = out ++ (cutC c (s.data.toList.drop f)).map mkB
theorem CutRel.start (c : UInt8) (s : ByteArray) : CutRel c s 0 0 [] := ⟨Nat.le_refl _, Nat.zero_le _, by simp, by simp [cutB]⟩
theorem piece_snoc (s : ByteArray) (i f : Nat) (h1 : f ≤ i) (h2 : i < s.size) : (s.data.toList.take (i + 1)).drop f = (s.data.toList.take i).drop f ++ [byteU s i] := by
  have hl : i < s.data.toList.length := by simpa using h2
  rw [List.take_add_one, List.drop_append_of_le_length (by rw [List.length_take]; omega), byteU, List.getD_eq_getElem?_getD, List.getElem?_eq_getElem hl]
  rfl
theorem drop_split (s : ByteArray) (i f : Nat) (h1 : f ≤ i) (h2 : i < s.size) : s.data.toList.drop f = (s.data.toList.take i).drop f ++ byteU s i :: s.data.toList.drop (i + 1) := by
  rw [← byteU_drop s i h2]
  have hl : i ≤ s.data.toList.length := by have : s.data.toList.length = s.size := by simp
                                           omega
  conv => lhs; rw [← List.take_append_drop i s.data.toList]
  rw [List.drop_append_of_le_length (by rw [List.length_take]; omega)]
theorem CutRel.miss {c : UInt8} {s : ByteArray} {i f : Nat} {out : List ByteArray} (h : CutRel c s i f out) (hi : i < s.size) (hc : byteU s i ≠ c) : CutRel c s (i + 1) f out :=
  ⟨by have := h.le; omega, hi, by rw [piece_snoc s i f h.le hi, List.mem_append]; rintro (h1 | h1); exact h.no h1; simp at h1; exact hc h1.symm, h.out⟩
theorem CutRel.hit {c : UInt8} {s : ByteArray} {i f : Nat} {out : List ByteArray} (h : CutRel c s i f out) (hi : i < s.size) (hc : byteU s i = c) : CutRel c s (i + 1) (i + 1) (out ++ [mkB ((s.data.toList.take i).drop f)]) :=
  ⟨Nat.le_refl _, hi, by simp, by
    rw [h.out, drop_split s i f h.le hi, hc, cutC_app c _ _ h.no, List.append_assoc]
    rfl⟩
theorem CutRel.done {c : UInt8} {s : ByteArray} {i f : Nat} {out : List ByteArray} (h : CutRel c s i f out) (hi : i = s.size) : cutB c s = out ++ [mkB (s.data.toList.drop f)] := by
  have e : (s.data.toList.take i).drop f = s.data.toList.drop f := by rw [List.take_of_length_le (by simp [hi])]
  have := h.no
  rw [e] at this
  rw [h.out, cutC_none c _ this]
  rfl
theorem CutRel.len {c : UInt8} {s : ByteArray} {i f : Nat} {out : List ByteArray} (h : CutRel c s i f out) : out.length ≤ s.size := by
  have h1 := cutB_size c s
  rw [h.out, List.length_append, List.length_map] at h1
  have : 1 ≤ (cutC c (s.data.toList.drop f)).length := by
    cases hh : cutC c (s.data.toList.drop f) with
    | nil => exact absurd hh (cutC_ne _ _)
    | cons a l => simp
  omega
def CutR (c : UInt8) (s : ByteArray) (w : World) (v f i : Value) (wr : World) : Prop :=
  ∃ (k q : Nat) (out : List ByteArray), i = .int .i64 k ∧ f = .int .i64 q ∧ OwnS wr w.heap.size v out ∧ CutRel c s k q out ∧ Ext w wr
set_option maxHeartbeats 4000000 in
theorem rcut_any (s : ByteArray) (c : UInt8) (hs : s.size ≤ 1000000) (w : World) :
    Calls Tryz.prog 22 #[.string s, .string ⟨#[c]⟩] w fun e w' => ∃ v, e = .returned v ∧ OwnS w' w.heap.size v (cutB c s) ∧ Ext w w' := by
  go_enter Tryz.func22, Tryz.ntmps22
  go_wp2
  go_loopw [5, 6, 7] (fun v f i wr => CutR c s w v f i wr) (fun _ _ i _ => s.size - (intOf i).toNat)
  case atStart => exact ⟨0, 0, [], rfl, rfl, OwnG.nil _ _ _ _ _, CutRel.start c s, Ext.refl w⟩
  case round =>
    obtain ⟨k, q, out, rfl, rfl, hown, hrel, hx⟩ := hrel
    have d1 : IntKind.i64.wrap ((k : Int) + 1) = (k : Int) + 1 := IntWalk.i64_in _ ⟨by have := hrel.size; omega, by have := hrel.size; omega⟩
    by_cases hlt : k < s.size
    · have c1 : (k : Int) + 1 ≤ s.size := by omega
      have hsl := fun w => str_one s k hlt w
      obtain ⟨Y, hY⟩ : ∃ Y, (⟨#[c]⟩ : ByteArray) = Y := ⟨_, rfl⟩
      have y1 : Y.size = 1 := by rw [← hY]; rfl
      by_cases hc : byteU s k = c
      · have HN := Lib.hid (hrel.hit hlt hc)
        have hln := hrel.len
        have hm := fun w => str_mid s q k hrel.le hrel.size w
        rw [hc, hY] at hsl
        rw [hY]
        clear hrel hc hY
        generalize mkB ((s.data.toList.take k).drop q) = X at *
        have HO := Lib.hid hown
        clear hown
        go_wp2_with (at_builtin; refine wpList_app_G _ elemS rfl _ _ rfl (base := w.heap.size) rfl (HO.out.ext ((Ext.refl _).alloc _)) (m := [X]) rfl (SlG.one elemS.hk _ ?c1 ?c2) ?c3 ?c4 ?c5 ?c6 ?_)
        case c1 => rfl
        all_goals first
          | (intro e; cases e; done)
          | (have := hln; have := hx.size; omega; done)
          | (have := hln; have := hx.size; simp; omega; done)
          | skip
        intro v' w3 hown' hbl
        have hx3 : Ext w w3 := below_ext (hx.alloc _) hbl (Nat.le_refl _)
        go_wp2
        go_roundw
        case rel => exact ⟨k + 1, k + 1, out ++ [X], by go_num, by go_num, hown', HN.out, hx3⟩
        case measure => simp [intOf, d1]; omega
      · have HN := Lib.hid (hrel.miss hlt hc)
        have hne := one_ne hc
        rw [hY] at hne
        rw [hY]
        generalize (⟨#[byteU s k]⟩ : ByteArray) = X at *
        clear hrel hc hY
        go_wp2
        go_roundw
        case rel => exact ⟨k + 1, q, out, by go_num, rfl, hown, HN.out, hx⟩
        case measure => simp [intOf, d1]; omega
    · obtain rfl : k = s.size := by have := hrel.size; omega
      have c1 : ¬ (s.size : Int) + 1 ≤ s.size := by omega
      have HN := Lib.hid (hrel.done rfl)
      have hln := hrel.len
      have hm := fun w => str_from s q (Nat.le_trans hrel.le hrel.size) w
      obtain ⟨Y, hY⟩ : ∃ Y, (⟨#[c]⟩ : ByteArray) = Y := ⟨_, rfl⟩
      have y1 : Y.size = 1 := by rw [← hY]; rfl
      rw [hY]
      clear hrel hY
      generalize mkB (s.data.toList.drop q) = X at *
      have HO := Lib.hid hown
      clear hown
      go_wp2_with (at_builtin; refine wpList_app_G _ elemS rfl _ _ rfl (base := w.heap.size) rfl (HO.out.ext ((Ext.refl _).alloc _)) (m := [X]) rfl (SlG.one elemS.hk _ ?k1 ?k2) ?k3 ?k4 ?k5 ?k6 ?_)
      case k1 => rfl
      all_goals first
        | (intro e; cases e; done)
        | (have := hln; have := hx.size; omega; done)
        | (have := hln; have := hx.size; simp; omega; done)
        | skip
      intro v' w3 hown' hbl
      have hx3 : Ext w w3 := below_ext (hx.alloc _) hbl (Nat.le_refl _)
      go_wp2
      go_ret
      exact ⟨v', rfl, by rw [HN.out]; exact hown', hx3⟩
end Go.Proofs.YtpobjheodlkkiaaGreatDoor
