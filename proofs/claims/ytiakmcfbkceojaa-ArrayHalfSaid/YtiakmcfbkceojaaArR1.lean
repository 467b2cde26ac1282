/- Arrays, the reference: spot, copied. -/
import Derived.Test.YtiakmcfbkceojaaArQ
namespace Go.Proofs.Ytiakmcfbkceojaa
open Go.RowKit Go.Maps
set_option linter.unusedVariables false
set_option linter.unusedSimpArgs false
set_option maxRecDepth 20000

/-- the last of the first k blocks that begins not behind index -/
def spotQ (LL : List (List Int)) (index : Nat) : Nat → Nat × Nat
  | 0 => (0, 0)
  | k + 1 => if lenT LL k ≤ index then (k, lenT LL k) else spotQ LL index k
theorem spotQ_pos {LL : List (List Int)} {index k : Nat} (h : lenT LL k ≤ index) : spotQ LL index (k + 1) = (k, lenT LL k) := if_pos h
theorem spotQ_neg {LL : List (List Int)} {index k : Nat} (h : ¬ lenT LL k ≤ index) : spotQ LL index (k + 1) = spotQ LL index k := if_neg h
theorem lenT_mono (LL : List (List Int)) {i j : Nat} (h : i ≤ j) (hj : j ≤ LL.length) : lenT LL i ≤ lenT LL j := by
  induction j with
  | zero => obtain rfl : i = 0 := by omega
            exact Nat.le_refl _
  | succ j ih =>
    by_cases he : i = j + 1
    · subst he; exact Nat.le_refl _
    · have := ih (by omega) (by omega)
      rw [lenT_succ (by omega : j < LL.length)]
      omega
theorem spotQ_spot {LL : List (List Int)} {index q p : Nat} (h : Spot LL index q p) : spotQ LL index LL.length = (q, lenT LL q) := by
  obtain ⟨h1, h2, h3⟩ := h
  have hq : lenT LL q ≤ index := by unfold lenT; omega
  have key : ∀ k, q < k → k ≤ LL.length → spotQ LL index k = (q, lenT LL q) := by
    intro k
    induction k with
    | zero => intro h; omega
    | succ k ih =>
      intro hk hle
      by_cases he : k = q
      · subst he; exact spotQ_pos hq
      · have hm := lenT_mono LL (show q + 1 ≤ k by omega) (by omega)
        rw [lenT_succ h1] at hm
        have : ¬ lenT LL k ≤ index := by
          rcases h3 with h3 | ⟨h3, _⟩
          · unfold lenT at *; omega
          · omega
        rw [spotQ_neg this]
        exact ih (by omega) (by omega)
  exact key _ h1 (Nat.le_refl _)

theorem rspot_any (P : Option Addr) (cap : Nat) (Q : Nat → Option Addr) (C : Nat → Nat) (LL : List (List Int)) (index : Nat) (w : World) (h : SlA w P cap Q C LL) (ht : LL.flatten.length ≤ 1000) (hi : index ≤ 1000) (hl : LL.length ≤ 1000) :
    Calls Try.prog 50 #[.slice P LL.length cap, .int .i64 index] w fun e w' => e = .returned (.tuple #[.int .i64 (spotQ LL index LL.length).1, .int .i64 (spotQ LL index LL.length).2]) ∧ w = w' := by
  have hlen := h.len
  go_enter Try.func50, Try.ntmps50
  go_wp2
  go_loop [7, 6, 4, 5] (fun i n x y => ∃ (k : Nat), k ≤ LL.length ∧ i = .int .i64 k ∧ n = .int .i64 (lenT LL k) ∧ x = .int .i64 (spotQ LL index k).1 ∧ y = .int .i64 (spotQ LL index k).2) (fun i _ _ _ => LL.length - (intOf i).toNat)
  case atStart => exact ⟨0, by omega, rfl, rfl, rfl, rfl⟩
  case round =>
    obtain ⟨k, hk, rfl, rfl, rfl, rfl⟩ := hrel
    by_cases hlt : k < LL.length
    · obtain ⟨b, off, hP, hc⟩ := h.at_ k hlt
      have c1 : (k : Int) < LL.length := by omega
      have Hf := Lib.hid (lenT_succ hlt)
      have hle := lenT_le LL (k + 1)
      rw [Hf.out] at hle
      subst hP
      by_cases hin : lenT LL k ≤ index
      · have Hs := Lib.hid (spotQ_pos hin)
        generalize spotQ LL index k = sq at *
        go_wp2
        go_round
        case rel => exact ⟨k + 1, by omega, by go_num, by rw [Hf.out]; go_num, by rw [Hs.out], by rw [Hs.out]⟩
        case measure => simp [intOf]; omega
      · have Hs := Lib.hid (spotQ_neg hin)
        generalize spotQ LL index k = sq at *
        go_wp2
        go_round
        case rel => exact ⟨k + 1, by omega, by go_num, by rw [Hf.out]; go_num, by rw [Hs.out], by rw [Hs.out]⟩
        case measure => simp [intOf]; omega
    · obtain rfl : k = LL.length := by omega
      obtain ⟨sq, hsq⟩ : ∃ sq, spotQ LL index LL.length = sq := ⟨_, rfl⟩
      have HS := Lib.hid hsq
      rw [hsq]
      clear hsq
      go_wp2
      go_ret2
      exact ⟨by rw [HS.out]; rfl, rfl⟩

theorem SlA.take {w : World} {P : Option Addr} {cap : Nat} {Q : Nat → Option Addr} {C : Nat → Nat} {LL : List (List Int)} (h : SlA w P cap Q C LL) (n : Nat) : SlA w P cap Q C (LL.take n) := by
  have hl : (LL.take n).length ≤ LL.length := by rw [List.length_take]; omega
  have hn : ∀ i, i < (LL.take n).length → nthA (LL.take n) i = nthA LL i := fun i hi => by
    rw [List.length_take] at hi
    simp [nthA, List.getD_eq_getElem?_getD, show i < n by omega]
  refine ⟨fun i hi => ?_, fun i hi => ?_, Nat.le_trans hl h.le, h.cap⟩
  · rw [hn i hi]; exact h.at_ i (by omega)
  · rw [hn i hi]; exact h.row i (by omega)
theorem SlA.empty {w : World} (P : Option Addr) (cap : Nat) (hc : cap ≤ 9223372036854775807) (Q : Nat → Option Addr) (C : Nat → Nat) : SlA w P cap Q C [] :=
  ⟨fun i hi => by simp at hi, fun i hi => by simp at hi, by simp, hc⟩
theorem SlA.drop {w : World} {b off cap : Nat} {Q : Nat → Option Addr} {C : Nat → Nat} {LL : List (List Int)} (h : SlA w (some ⟨b, off, none⟩) cap Q C LL) (n : Nat) (hn : n ≤ LL.length) : SlA w (some ⟨b, off + n, none⟩) (cap - n) (fun i => Q (n + i)) (fun i => C (n + i)) (LL.drop n) := by
  have hl : (LL.drop n).length = LL.length - n := List.length_drop
  have hd : ∀ i, nthA (LL.drop n) i = nthA LL (n + i) := fun i => by simp [nthA, List.getD_eq_getElem?_getD, List.getElem?_drop]
  have h1 := h.le
  have h2 := h.cap
  refine ⟨fun i hi => ?_, fun i hi => ?_, by omega, by omega⟩
  · rw [hd]
    obtain ⟨b', o', e, hc⟩ := h.at_ (n + i) (by omega)
    simp only [Option.some.injEq, Addr.mk.injEq, and_true] at e
    obtain ⟨rfl, rfl⟩ := e
    exact ⟨b, off + n, rfl, by rw [Nat.add_assoc]; exact hc⟩
  · rw [hd]; exact h.row (n + i) (by omega)

/-- a list appended to an empty new one -/
theorem fresh_ints (w : World) (l : List Int) (b off cap : Nat) (h : SlI w (some ⟨b, off, none⟩) cap l) (hn : l.length ≤ 2000) :
    ∃ v' w', (Builtin.append_ #[22, 22] 22 #[.slice (some ⟨w.heap.size, 0, none⟩) 0 0, .slice (some ⟨b, off, none⟩) l.length cap]).run Try.prog (w.alloc (.cells #[] 3)) = .ok v' w' ∧ w'.ownsRow w.heap.size 3 1 v' l.length (intVs l) ∧ Ext w w' := by
  have h1 : (w.alloc (.cells #[] 3)).ownsRow w.heap.size 3 1 (.slice (some ⟨w.heap.size, 0, none⟩) 0 0) ([] : List Int).length (intVs []) := World.ownsRow_made w #[] 0 (Nat.le_refl _) (by simp [maxLen]) (by simp)
  have hx1 : Ext w (w.alloc (.cells #[] 3)) := (Ext.refl w).alloc _
  obtain ⟨v', w', hrun, hown, hg, hb⟩ := append_ints (w.alloc (.cells #[] 3)) w.heap.size (.slice (some ⟨w.heap.size, 0, none⟩) 0 0) [] l b off cap h1 (h.ext hx1) (by simp; omega) (by simp)
  rw [List.nil_append] at hown
  exact ⟨v', w', hrun, hown, Below.grown hx1 hg (by simp) (fun k hk => by simp [Value.ownBlock] at hk; omega)⟩

/-- the first blocks are copied -/
def CopR (LL : List (List Int)) (w : World) (i v : Value) (wr : World) : Prop :=
  ∃ (k : Nat) (RR : List Row), k ≤ LL.length ∧ i = .int .i64 k ∧ OwnA wr w.heap.size v RR ∧ RR.map Row.l = LL.take k ∧ Ext w wr
theorem copied_any (P : Option Addr) (cap : Nat) (Q : Nat → Option Addr) (C : Nat → Nat) (LL : List (List Int)) (w : World) (h : SlA w P cap Q C LL) (hne : ∀ l ∈ LL, l ≠ []) (ht : LL.flatten.length ≤ 1000) :
    Calls Try.prog 63 #[.slice P LL.length cap] w fun e w' => ∃ v RR, e = .returned v ∧ OwnA w' w.heap.size v RR ∧ RR.map Row.l = LL ∧ Ext w w' := by
  have hlen := h.len
  have hll := len_le_flat LL hne
  go_enter Try.func63, Try.ntmps63
  go_wp2
  go_loopw [4, 3] (fun i v wr => CopR LL w i v wr) (fun i _ _ => LL.length - (intOf i).toNat)
  case atStart => exact ⟨0, [], by omega, rfl, OwnA.nil _ _, rfl, Ext.refl w⟩
  case round =>
    obtain ⟨k, RR, hk, rfl, hO, hRR, hx⟩ := hrel
    by_cases hlt : k < LL.length
    · obtain ⟨bb, off, hP, hc⟩ := h.at_ k hlt
      subst hP
      replace hc := (hx.alloc (.cells #[] 3)).cell hc
      have hl := hne _ (nthA_mem hlt)
      obtain ⟨b2, off2, hQ, _⟩ := (h.row k hlt).at_ 0 (List.length_pos_iff.2 hl)
      have hrow := (h.row k hlt).ext hx
      rw [hQ] at hc hrow
      have Hk := Lib.hid (nthA_take hlt)
      have hsz : (nthA LL k).length ≤ 1000 := by
        have h1 := lenT_le LL (k + 1)
        rw [lenT_succ hlt] at h1
        omega
      have HRR := Lib.hid hRR
      have hRl : RR.length = k := by
        have := congrArg List.length hRR
        rw [List.length_map, List.length_take] at this
        omega
      obtain ⟨v1, w2, hrun, hown, hx2⟩ := fresh_ints wr _ b2 off2 (C k) hrow (by omega)
      obtain ⟨g, c, rfl, hT⟩ := TightB.of hown hl
      obtain ⟨W3, hW3⟩ : ∃ W3, w2.alloc (.cells #[.slice (some ⟨g, 0, none⟩) (nthA LL k).length c] 22) = W3 := ⟨_, rfl⟩
      have hx3 : Ext w2 W3 := by rw [← hW3]; exact (Ext.refl w2).alloc _
      have hb3 : W3.cell? ⟨w2.heap.size, 0, none⟩ = some (.slice (some ⟨g, 0, none⟩) (nthA LL k).length c) := by rw [← hW3]; exact one_at (World.alloc_heap_new _ _)
      have hO3 := hO.ext (hx2.trans hx3)
      have hT3 := hT.ext hx3
      obtain ⟨v4, w4, hrun4, hown4, hg4, hb4⟩ := appendJ W3 w.heap.size u3 RR.length (RR.map Row.v) hO3.out ⟨w2.heap.size, 0, none⟩ _ hb3 rfl (by omega) (by have := hx.size; have := hx2.size; have := hx3.size; omega) rfl
      have hgw : wr.heap.size ≤ g := hT.inB.1
      have hO4 : OwnA w4 w.heap.size v4 (RR ++ [⟨g, c, nthA LL k⟩]) := OwnA.snoc hO3 (hT3.inB.down hx.size) (fun x hx' => by have := hO.lt hx'; simp only; omega) hown4 (fun e => by
        have := (hO.out.lt _ e).2
        simp only at this
        omega) hg4 (hb4.imp id fun e => ⟨_, e, Nat.le_refl _⟩)
      have hblk := hO3.out.lt
      have hx4 : Ext w w4 := Below.grown (hx.trans (hx2.trans hx3)) hg4 ((hx.trans (hx2.trans hx3)).size) (fun j hj => (hblk j hj).1)
      have HW3 := Lib.hid hW3
      have Hall : Hid (OwnA w4 w.heap.size v4 (RR ++ [⟨g, c, nthA LL k⟩]) ∧ Ext w w4) := Lib.hid ⟨hO4, hx4⟩
      have c1 : (k : Int) < LL.length := by omega
      clear hO4 hx4 hblk hO3 hT3 hgw hown4 hg4 hb4 hW3 hT hown hQ hRR hRl hrow hb3 hx3 hx2
      go_wp2_with (first
        | (at_builtin; refine Lib.wpList_append_run _ rfl _ _ _ _ rfl _ _ rfl rfl _ _ hrun ?_)
        | (at_builtin; rw [HW3.out]; refine Lib.wpList_append_run _ rfl _ _ _ _ rfl _ _ rfl rfl _ _ hrun4 ?_))
      go_roundw
      case rel => exact ⟨k + 1, _, by omega, by go_num, Hall.out.1, by rw [List.map_append, HRR.out, Hk.out]; rfl, Hall.out.2⟩
      case measure => simp [intOf]; omega
    · obtain rfl : k = LL.length := by omega
      rw [List.take_length] at hRR
      go_wp2
      go_ret
      exact ⟨_, RR, rfl, hO, hRR, hx⟩
end Go.Proofs.Ytiakmcfbkceojaa
