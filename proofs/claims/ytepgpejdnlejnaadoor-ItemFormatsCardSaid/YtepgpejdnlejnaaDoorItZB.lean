/- item.Format. -/
import Derived.Test.YtepgpejdnlejnaaDoorItZA
import Derived.Test.YtepgpejdnlejnaaDoorQ13
import Derived.Test.YtepgpejdnlejnaaDoorTxW
import Derived.Test.YtepgpejdnlejnaaDoorQ10
import Derived.Lib.ItoaLen
namespace Go.Proofs.YtepgpejdnlejnaaDoor
open Go.RowKit
set_option linter.unusedVariables false
set_option linter.unusedSimpArgs false
set_option linter.unusedSectionVars false
set_option maxRecDepth 100000
attribute [local go_sem] Oper.semAt_some

def itemS (x : It) : ByteArray := mkB (itemT (toI x))
theorem str_app2 (a b : ByteArray) : a ++ b = mkB (a.data.toList ++ b.data.toList) := by
  apply ByteArray.ext
  apply Array.ext'
  simp [mkB]
theorem itemS_int {x : It} (h : x.2.1 = 1) : (((x.1 ++ ⟨#[32, 105, 110, 116, 32]⟩) ++ mkB (Lib.itoa x.2.2.1)) ++ ⟨#[32]⟩) ++ mkB (Lib.itoa x.2.2.2.1) = itemS x := by
  unfold itemS itemT
  rw [if_pos (show (toI x).2.1 = 1 from h), str_app2, str_app2, str_app2, str_app2]
  congr 1
  simp [mkB, toI]
theorem itemS_text {x : It} (h : ¬ x.2.1 = 1) : (x.1 ++ ⟨#[32, 116, 101, 120, 116, 32]⟩) ++ mkB (Lib.itoa x.2.2.2.2) = itemS x := by
  unfold itemS itemT
  rw [if_neg (show ¬ (toI x).2.1 = 1 from h), str_app2, str_app2]
  congr 1
  simp [mkB, toI]
theorem itoaB_le (n : Int) (h0 : -9223372036854775808 ≤ n) (h1 : n ≤ 9223372036854775807) : (mkB (Lib.itoa n)).size ≤ 21 := by
  rw [mkB_size]
  exact Lib.itoa_length_le n (by omega) (by omega)
def fmtL (l : List It) : List UInt8 := if itemsB l = true then Lib.join (l.map fun x => itemT (toI x)) [59, 32] else []
theorem fmtL_P (l : List It) : fmtL l = fmtI itemsP (l.map toI) := by
  unfold fmtL fmtI
  rw [itemsP_map, List.map_map]
  rfl
theorem item_num {x : It} (h : itemB x = true) : (x.1.size ≤ 16) ∧ (-1000000000 ≤ x.2.2.1 ∧ x.2.2.1 ≤ 1000000000) ∧ (-1000000000 ≤ x.2.2.2.1 ∧ x.2.2.2.1 ≤ 1000000000) ∧ (0 ≤ x.2.2.2.2 ∧ x.2.2.2.2 ≤ 40) := by
  unfold itemB at h
  rw [Bool.and_eq_true] at h
  obtain ⟨h1, h2⟩ := h
  refine ⟨(nameF_iff.1 h1).1.2, ?_⟩
  by_cases hk : x.2.1 = 1
  · rw [if_pos hk] at h2
    have h2 := of_decide_eq_true h2
    omega
  · rw [if_neg hk] at h2
    have h2 := of_decide_eq_true h2
    omega
theorem itemS_le {x : It} (h : itemB x = true) : (itemT (toI x)).length ≤ 80 := by
  obtain ⟨h1, h2, h3, h4⟩ := item_num h
  have i1 := Lib.itoa_length_le x.2.2.1 (by omega) (by omega)
  have i2 := Lib.itoa_length_le x.2.2.2.1 (by omega) (by omega)
  have i3 := Lib.itoa_length_le x.2.2.2.2 (by omega) (by omega)
  have e : (toI x).1.length = x.1.size := by show x.1.data.toList.length = _; simp
  unfold itemT
  split
  · simp only [List.length_append, List.length_cons, List.length_nil, e]
    show x.1.size + (3 + ((Lib.itoa x.2.2.1).length + ((Lib.itoa x.2.2.2.1).length + 1) + 1) + 1) ≤ 80
    omega
  · simp only [List.length_append, List.length_cons, List.length_nil, e]
    show x.1.size + (4 + ((Lib.itoa x.2.2.2.2).length + 1) + 1) ≤ 80
    omega
theorem item_all {l : List It} (h : itemsB l = true) : l.length ≤ 8 ∧ ∀ x ∈ l, itemB x = true := by
  unfold itemsB knownB at h
  rw [Bool.and_eq_true, Bool.and_eq_true] at h
  refine ⟨of_decide_eq_true h.2.2, fun x hx => ?_⟩
  have hall : ∀ i, i < l.length → goodT l i := by simpa using h.2.1
  obtain ⟨i, hi⟩ := List.mem_iff_getElem?.1 hx
  have hlt := (List.getElem?_eq_some_iff.1 hi).1
  have := (hall i hlt).1
  rw [nthT_some hlt] at hi
  injection hi with hi
  rw [hi] at this
  exact this
theorem own_ne' {α : Type} {cs : α → List Value} {e t : TypeId} {k base B : Nat} {W : World} {v : Value} {l : List α} {C : Array Value} {fz : Nat × Nat} (h : OwnG cs e k W base v l) (hB : W.heap[B]? = some (.cells C t fz)) (hte : t ≠ e) : v.ownBlock ≠ some B := by
  intro hv
  rcases h.2 with ⟨rfl, _⟩ | ⟨g, cap, cur, rfl, hb, hg, rest⟩
  · cases hv
  · obtain rfl : g = B := by simpa [Value.ownBlock] using hv
    rw [hB] at hg
    injection hg with hg
    injection hg with _ hg _
    exact hte hg
theorem no_none {α : Type} {a : α} {p : Prop} (h : some a = none) : p := by cases h
theorem box_grown {α : Type} {cs : α → List Value} {e t : TypeId} {k base B : Nat} {W W' : World} {v : Value} {l : List α} {C : Array Value} (hB : BoxN W B t C) (h : OwnG cs e k W base v l) (hte : t ≠ e) (hg : W.grownBy W' v.ownBlock) : BoxN W' B t C := grown_heap hg hB (own_ne' h hB hte)
set_option maxHeartbeats 8000000 in
theorem format_any (P : Option Addr) (cap : Nat) (l : List It) (w : World) (h : SlT w P cap l) (ht : Tab w) :
    Calls Tryd.prog 48 #[.slice P l.length cap] w fun e w' => e = .returned (.string (mkB (fmtL l))) ∧ Ext w w' := by
  have hlen := h.len
  have hR := items_any P cap l w h
  cases hr : itemsB l with
  | false =>
    have HB := Lib.hid (show fmtL l = [] from by simp [fmtL, hr])
    simp only [hr] at hR
    clear hr
    go_enter Tryd.func48, Tryd.ntmps48
    go_wp2_with (go_at_call 20; refine hR.mono ?_; rintro e w1 ⟨rfl, hx1⟩)
    go_ret
    exact ⟨by rw [HB.out]; rfl, hx1⟩
  | true =>
    have HB := Lib.hid (show fmtL l = Lib.join (l.map fun x => itemT (toI x)) [59, 32] from by simp [fmtL, hr])
    simp only [hr] at hR
    obtain ⟨h8, hall⟩ := item_all hr
    clear hr
    go_enter Tryd.func48, Tryd.ntmps48
    go_wp2_with (go_at_call 20; refine hR.mono ?_; rintro e w1 ⟨rfl, hx1⟩)
    go_loopw [11, 3, 5] (fun i v _ wr => ∃ (k : Nat) (v' : Value), k ≤ l.length ∧ i = .int .i64 k ∧ v = v' ∧ OwnS wr w.heap.size v' ((l.take k).map itemS) ∧ Ext w wr) (fun i _ _ _ => l.length - (intOf i).toNat)
    case atStart => exact ⟨0, _, by omega, rfl, rfl, OwnG.nil _ _ _ _ _, hx1⟩
    case round =>
      obtain ⟨k, v, hk, rfl, rfl, hown, hx⟩ := hrel
      by_cases hlt : k < l.length
      · obtain ⟨b, off, hP, g0, g1, g2, g3, g4⟩ := h.itemAt k hlt
        subst hP
        have g0 := hx.cell g0
        have g1 := hx.cell g1
        have g2 := hx.cell g2
        have g3 := hx.cell g3
        have g4 := hx.cell g4
        have c1 : (k : Int) < l.length := by omega
        have d1 : IntKind.i64.wrap ((k : Int) + 1) = (k : Int) + 1 := IntWalk.i64_in _ ⟨by omega, by omega⟩
        have hv := item_num (hall _ (nthT_mem hlt))
        have hs : (l.take (k + 1)).map itemS = (l.take k).map itemS ++ [itemS (nthT l k)] := by
          rw [List.take_add_one, nthT_some hlt]
          simp
        have hln : ((l.take k).map itemS).length ≤ 8 := by simp; omega
        have HN := Lib.hid hln
        have HS := Lib.hid hs
        obtain ⟨L, hL⟩ : ∃ L, (l.take k).map itemS = L := ⟨_, rfl⟩
        rw [hL] at HS HN hown
        obtain ⟨X, hX⟩ : ∃ X, nthT l k = X := ⟨_, rfl⟩
        rw [hX] at g0 g1 g2 g3 g4 hv HS
        obtain ⟨nm, kd, lo, hi, ln⟩ := X
        simp only at g0 g1 g2 g3 g4 hv
        obtain ⟨v1, v2, v3, v4⟩ := hv
        clear hs hL hX hln
        have hone : 1 ≤ 9223372036854775807 := by omega
        have hte : (32 : TypeId) ≠ 9 := by decide
        have hbd : (L.length + 1) * 16 ≤ 140737488355328 := by have := HN.out; omega
        have hbd2 : L.length + 1 ≤ 9223372036854775807 := by have := HN.out; omega
        have HL1 := Lib.hid (show ∀ Y : ByteArray, (L ++ [Y]).length = L.length + 1 from fun Y => by simp)
        have hone : 1 ≤ 9223372036854775807 := by omega
        have hte : (32 : TypeId) ≠ 9 := by decide
        have hbd : (L.length + 1) * 16 ≤ 140737488355328 := by have := HN.out; omega
        have hbd2 : L.length + 1 ≤ 9223372036854775807 := by have := HN.out; omega
        have HL1 := Lib.hid (show ∀ Y : ByteArray, (L ++ [Y]).length = L.length + 1 from fun Y => by simp)
        have hone : 1 ≤ 9223372036854775807 := by omega
        have hte : (32 : TypeId) ≠ 9 := by decide
        have hbd : (L.length + 1) * 16 ≤ 140737488355328 := by have := HN.out; omega
        have hbd2 : L.length + 1 ≤ 9223372036854775807 := by have := HN.out; omega
        have HL1 := Lib.hid (show ∀ Y : ByteArray, (L ++ [Y]).length = L.length + 1 from fun Y => by simp)
        have hone : 1 ≤ 9223372036854775807 := by omega
        have hte : (32 : TypeId) ≠ 9 := by decide
        have hbd : (L.length + 1) * 16 ≤ 140737488355328 := by have := HN.out; omega
        have hbd2 : L.length + 1 ≤ 9223372036854775807 := by have := HN.out; omega
        have HL1 := Lib.hid (show ∀ Y : ByteArray, (L ++ [Y]).length = L.length + 1 from fun Y => by simp)
        have hone : 1 ≤ 9223372036854775807 := by omega
        have hte : (32 : TypeId) ≠ 9 := by decide
        have hbd : (L.length + 1) * 16 ≤ 140737488355328 := by have := HN.out; omega
        have hbd2 : L.length + 1 ≤ 9223372036854775807 := by have := HN.out; omega
        have HL1 := Lib.hid (show ∀ Y : ByteArray, (L ++ [Y]).length = L.length + 1 from fun Y => by simp)
        have hone : 1 ≤ 9223372036854775807 := by omega
        have hte : (32 : TypeId) ≠ 9 := by decide
        have hbd : (L.length + 1) * 16 ≤ 140737488355328 := by have := HN.out; omega
        have hbd2 : L.length + 1 ≤ 9223372036854775807 := by have := HN.out; omega
        have HL1 := Lib.hid (show ∀ Y : ByteArray, (L ++ [Y]).length = L.length + 1 from fun Y => by simp)
        by_cases hk1 : kd = 1
        · subst hk1
          have HE := itemS_int (x := (nm, 1, lo, hi, ln)) rfl
          simp only at HE
          have b1 := itoaB_le lo (by omega) (by omega)
          have b2 := itoaB_le hi (by omega) (by omega)
          have hI1 := fun W hW => itoa_T lo (by omega) (by omega) W hW
          have hI2 := fun W hW => itoa_T hi (by omega) (by omega) W hW
          have em : ∀ n, (⟨(Lib.itoa n).toArray⟩ : ByteArray) = mkB (Lib.itoa n) := fun _ => rfl
          rw [em] at hI1 hI2
          obtain ⟨I1, hi1⟩ : ∃ I, mkB (Lib.itoa lo) = I := ⟨_, rfl⟩
          obtain ⟨I2, hi2⟩ : ∃ I, mkB (Lib.itoa hi) = I := ⟨_, rfl⟩
          rw [hi1] at b1 hI1 HE
          rw [hi2] at b2 hI2 HE
          obtain ⟨Y, hY⟩ : ∃ Y, itemS (nm, 1, lo, hi, ln) = Y := ⟨_, rfl⟩
          rw [hY] at HE HS
          clear hY
          have z1 : ¬ 9223372036854775807 < nm.size + 5 := by omega
          have z2 : ¬ 9223372036854775807 < nm.size + 5 + I1.size := by omega
          have z3 : ¬ 9223372036854775807 < nm.size + 5 + I1.size + 1 := by omega
          have z4 : ¬ 9223372036854775807 < nm.size + 5 + I1.size + 1 + I2.size := by omega
          have hx2 := hx.alloc (.cells #[.string nm, .int .i64 1, .int .i64 lo, .int .i64 hi, .int .i64 ln] 32)
          have hT1 := hI1 _ (Tab.ext ht hx2.drew)
          have hBx := BoxN.new wr 32 #[.string nm, .int .i64 1, .int .i64 lo, .int .i64 hi, .int .i64 ln]
          have hown2 := hown.ext ((Ext.refl wr).alloc (.cells #[.string nm, .int .i64 1, .int .i64 lo, .int .i64 hi, .int .i64 ln] 32))
          clear hi1 hi2 em v1 v2 v3 v4 b1 b2
          go_wp2
          generalize wr.alloc (.cells #[.string nm, .int .i64 1, .int .i64 lo, .int .i64 hi, .int .i64 ln] 32) = W1 at *
          have e0 : W1.cell? ⟨wr.heap.size, 0, none⟩ = some (.string nm) := hBx.cell rfl
          have e2 : W1.cell? ⟨wr.heap.size, 2, none⟩ = some (.int .i64 lo) := hBx.cell rfl
          have e3 : W1.cell? ⟨wr.heap.size, 3, none⟩ = some (.int .i64 hi) := hBx.cell rfl
          go_region_held3 (fun w' => w'.cell? ⟨wr.heap.size, 0, none⟩ = some (.string nm) ∧ w'.cell? ⟨wr.heap.size, 2, none⟩ = some (.int .i64 lo) ∧ w'.cell? ⟨wr.heap.size, 3, none⟩ = some (.int .i64 hi)) (go_keep)
            (first
              | (go_at_call 82; (with_reducible refine hT1.mono ?_); rintro e w5 ⟨rfl, hx5⟩; have hx6 := hx2.drew.trans hx5; have hT2 := hI2 w5 (Tab.ext ht hx6); have y0 := hx5.cell e0; have y2 := hx5.cell e2; have y3 := hx5.cell e3)
              | (go_at_call 82; (with_reducible refine hT2.mono ?_); rintro e w6 ⟨rfl, hx7⟩; have hx8 := hx6.trans hx7; have z0 := hx7.cell y0; have z2 := hx7.cell y2; have z3 := hx7.cell y3; have hown6 := hown2.ext ((Ext.refl W1).drew.trans (hx5.trans hx7)); have hB6 := hBx.ext ((Ext.refl W1).drew.trans (hx5.trans hx7)))
              | (refine step_app_G w elemS ?_ (.tmp 18) (.tmp 31) ?_ u3 L [Y] 1 (some ⟨?_, 0, none⟩) 1 ?_ ?_ rfl ?_ ?_ no_none ?_ ?_ ?_ ?_
                 · rfl
                 · rfl
                 rotate_left 1
                 · rfl
                 · rfl
                 · exact hown6.ext ((Ext.refl w6).alloc (.cells #[.string (Y)] 9))
                 · exact SlG.lit (cs := csS) (k := 1) elemS.hk [Y] rfl rfl rfl hone
                 · exact hbd
                 · exact hbd2
                 · exact hx8.alloc (.cells #[.string (Y)] 9)
                 intro v' w' ho' hx' hg'
                 have hB7 := box_grown (hB6.ext ((Ext.refl w6).alloc (.cells #[.string (Y)] 9))) (hown6.ext ((Ext.refl w6).alloc (.cells #[.string (Y)] 9))) hte hg'
                 have q0 : w'.cell? ⟨wr.heap.size, 0, none⟩ = some (.string nm) := hB7.cell rfl
                 have q2 : w'.cell? ⟨wr.heap.size, 2, none⟩ = some (.int .i64 lo) := hB7.cell rfl
                 have q3 : w'.cell? ⟨wr.heap.size, 3, none⟩ = some (.int .i64 hi) := hB7.cell rfl)
              | fail)
          obtain ⟨g6, c6, rfl, _, _, _, _⟩ := ho'.tight (by rw [List.length_append]; exact Nat.succ_pos _)
          rw [← HS.out] at ho'
          go_wp2
          go_roundw
          case rel => exact ⟨k + 1, _, by omega, by go_num, by rw [HS.out], ho', hx'⟩
          case measure => simp [intOf]; omega
        · have HE := itemS_text (x := (nm, kd, lo, hi, ln)) hk1
          simp only at HE
          have nk : (kd == 1) = false := by simpa using hk1
          have b1 := itoaB_le ln (by omega) (by omega)
          have hI1 := fun W hW => itoa_T ln (by omega) (by omega) W hW
          have em : ∀ n, (⟨(Lib.itoa n).toArray⟩ : ByteArray) = mkB (Lib.itoa n) := fun _ => rfl
          rw [em] at hI1
          obtain ⟨I1, hi1⟩ : ∃ I, mkB (Lib.itoa ln) = I := ⟨_, rfl⟩
          rw [hi1] at b1 hI1 HE
          obtain ⟨Y, hY⟩ : ∃ Y, itemS (nm, kd, lo, hi, ln) = Y := ⟨_, rfl⟩
          rw [hY] at HE HS
          clear hY
          have z1 : ¬ 9223372036854775807 < nm.size + 6 := by omega
          have z2 : ¬ 9223372036854775807 < nm.size + 6 + I1.size := by omega
          clear hk1
          have hx2 := hx.alloc (.cells #[.string nm, .int .i64 kd, .int .i64 lo, .int .i64 hi, .int .i64 ln] 32)
          have hT1 := hI1 _ (Tab.ext ht hx2.drew)
          have hBx := BoxN.new wr 32 #[.string nm, .int .i64 kd, .int .i64 lo, .int .i64 hi, .int .i64 ln]
          have hown2 := hown.ext ((Ext.refl wr).alloc (.cells #[.string nm, .int .i64 kd, .int .i64 lo, .int .i64 hi, .int .i64 ln] 32))
          clear hi1 em v1 v2 v3 v4 b1
          go_wp2
          generalize wr.alloc (.cells #[.string nm, .int .i64 kd, .int .i64 lo, .int .i64 hi, .int .i64 ln] 32) = W1 at *
          have e0 : W1.cell? ⟨wr.heap.size, 0, none⟩ = some (.string nm) := hBx.cell rfl
          have e4 : W1.cell? ⟨wr.heap.size, 4, none⟩ = some (.int .i64 ln) := hBx.cell rfl
          go_region_held3 (fun w' => w'.cell? ⟨wr.heap.size, 0, none⟩ = some (.string nm) ∧ w'.cell? ⟨wr.heap.size, 4, none⟩ = some (.int .i64 ln)) (go_keep)
            (first
              | (go_at_call 82; (with_reducible refine hT1.mono ?_); rintro e w6 ⟨rfl, hx5⟩; have hx8 := hx2.drew.trans hx5; have z0 := hx5.cell e0; have z4 := hx5.cell e4; have hown6 := hown2.ext ((Ext.refl W1).drew.trans hx5); have hB6 := hBx.ext ((Ext.refl W1).drew.trans hx5))
              | (refine step_app_G w elemS ?_ (.tmp 33) (.tmp 41) ?_ u3 L [Y] 1 (some ⟨?_, 0, none⟩) 1 ?_ ?_ rfl ?_ ?_ no_none ?_ ?_ ?_ ?_
                 · rfl
                 · rfl
                 rotate_left 1
                 · rfl
                 · rfl
                 · exact hown6.ext ((Ext.refl w6).alloc (.cells #[.string (Y)] 9))
                 · exact SlG.lit (cs := csS) (k := 1) elemS.hk [Y] rfl rfl rfl hone
                 · exact hbd
                 · exact hbd2
                 · exact hx8.alloc (.cells #[.string (Y)] 9)
                 intro v' w' ho' hx' hg'
                 have hB7 := box_grown (hB6.ext ((Ext.refl w6).alloc (.cells #[.string (Y)] 9))) (hown6.ext ((Ext.refl w6).alloc (.cells #[.string (Y)] 9))) hte hg'
                 have q0 : w'.cell? ⟨wr.heap.size, 0, none⟩ = some (.string nm) := hB7.cell rfl
                 have q4 : w'.cell? ⟨wr.heap.size, 4, none⟩ = some (.int .i64 ln) := hB7.cell rfl)
              | fail)
          obtain ⟨g6, c6, rfl, _, _, _, _⟩ := ho'.tight (by rw [List.length_append]; exact Nat.succ_pos _)
          rw [← HS.out] at ho'
          go_wp2
          go_roundw
          case rel => exact ⟨k + 1, _, by omega, by go_num, by rw [HS.out], ho', hx'⟩
          case measure => simp [intOf]; omega
      · obtain rfl : k = l.length := by omega
        rw [List.take_length] at hown
        have hjl : (Lib.join (l.map fun x => itemT (toI x)) [59, 32]).length ≤ 140737488355328 := by
          have := join_le [59, 32] 80 (l.map fun x => itemT (toI x)) (by
            intro y hy
            obtain ⟨x, hx, rfl⟩ := List.mem_map.1 hy
            exact itemS_le (hall x hx))
          rw [List.length_map] at this
          have h2 : l.length * (80 + [59, 32].length) ≤ 8 * 82 := Nat.mul_le_mul h8 (by simp)
          omega
        rcases hown.2 with ⟨rfl, hl0⟩ | ⟨g, c, cur, rfl, hgb, hg, hcl, hcm, hcs, htk⟩
        · rw [List.length_map] at hl0
          obtain rfl := List.length_eq_zero_iff.1 hl0
          go_wp2_with (go_at_call 76; refine (Tryd.strings_Join_none _ _ _ _).mono ?_; rintro e w2 ⟨rfl, rfl⟩)
          go_ret
          exact ⟨by rw [HB.out]; rfl, hx⟩
        · have hJ := Tryd.strings_Join g 0 c (l.map itemS) ⟨#[59, 32]⟩ wr (fun j x hj => by
            have := OwnG.cell (cs := csS) (n := (l.map itemS).length) (fun _ => rfl) hown rfl j x hj 0 (.string x) rfl
            simpa using this) (Array.getElem?_eq_some_iff.1 hg).1 (by rw [List.length_map]; omega) hcl (by
              rw [List.map_map]
              exact hjl)
          rw [List.map_map] at hJ
          rw [show ((fun x : ByteArray => x.data.toList) ∘ itemS) = fun x => itemT (toI x) from by funext x; simp [itemS, mkB]] at hJ
          rw [List.length_map] at hJ
          rw [List.length_map]
          clear hown hall
          generalize Lib.join (l.map fun x => itemT (toI x)) [59, 32] = z at *
          go_wp2_with (go_at_call 76; refine hJ.mono ?_; rintro e w2 ⟨rfl, hx2⟩)
          go_ret
          exact ⟨by rw [HB.out]; rfl, hx.trans hx2⟩
end Go.Proofs.YtepgpejdnlejnaaDoor
