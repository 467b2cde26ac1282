/- Arrays: Valid of the program; Wrong, Valid of the reference. -/
import Derived.Test.YtgdbhmdhonnmgaaDoorArD
import Derived.Test.YtgdbhmdhonnmgaaDoorArB
namespace Go.Proofs.YtgdbhmdhonnmgaaDoor
open Go.RowKit Go.Maps
set_option linter.unusedVariables false
set_option maxRecDepth 20000
set_option linter.unusedSimpArgs false
set_option maxRecDepth 20000

theorem validF_eq (b : Int) (LL : List (List Int)) : validF b LL = ((wrongF b LL).2.2 == 0) := by
  unfold validF; rw [Bool.eq_iff_iff]; simp
theorem avalid_any (b : Int) (P : Option Addr) (cap : Nat) (Q : Nat → Option Addr) (C : Nat → Nat) (LL : List (List Int)) (w : World) (h : SlA w P cap Q C LL) (hv : ∀ l ∈ LL, ∀ x ∈ l, In64 x) :
    Calls Tryd.prog 12 #[.int .i64 b, .slice P LL.length cap] w fun e w' => e = .returned (.bool (validF b LL)) ∧ Ext w w' := by
  have hW := awrong_any b P cap Q C LL w h hv
  rw [validF_eq]
  generalize wrongF b LL = r at *
  obtain ⟨x, y, z⟩ := r
  simp only [three] at hW
  go_enter Tryd.func12, Tryd.ntmps12
  go_wp2_with (go_at_call 27; refine hW.mono ?_; rintro e w1 ⟨rfl, hx1⟩)
  go_ret
  exact ⟨rfl, hx1⟩

theorem slI_of_row {w : World} {base : Nat} {v : Value} {l : List Int} (h : w.ownsRow base 3 1 v l.length (intVs l)) : ∃ P cap, v = .slice P l.length cap ∧ SlI w P cap l := by
  rcases h.2 with ⟨rfl, h0⟩ | ⟨g, cap, cur, rfl, hb, hg, hn, hm, hs, ht⟩
  · obtain rfl := List.length_eq_zero_iff.1 h0
    exact ⟨none, 0, rfl, SlI.nil w⟩
  · refine ⟨_, cap, rfl, fun i hi => ⟨g, 0, rfl, ?_⟩, hn, by simpa only [maxLen] using hm⟩
    rw [Nat.zero_add]
    have := h.cellAt i (by omega)
    rw [this, intVs_get l i hi]
theorem intVs_snoc (l : List Int) (x : Int) : intVs l ++ [.int .i64 x] = intVs (l ++ [x]) := by simp [intVs]
/-- append of one number to a row of the call's own -/
theorem append_int1 (w : World) (base : Nat) (v : Value) (l : List Int) (x : Int) (a : Nat) (hown : w.ownsRow base 3 1 v l.length (intVs l)) (ha : w.cell? ⟨a, 0, none⟩ = some (.int .i64 x)) (hl : l.length ≤ 100000) (hb : base ≤ w.heap.size) :
    ∃ v' w', (Builtin.append_ #[31, 31] 31 #[v, .slice (some ⟨a, 0, none⟩) 1 1]).run Tryd.prog w = .ok v' w' ∧ w'.ownsRow base 3 1 v' (l ++ [x]).length (intVs (l ++ [x])) ∧ w.grownBy w' v.ownBlock := by
  obtain ⟨v', w', h1, h2, h3, _⟩ := appendI w base v l.length (intVs l) hown ⟨a, 0, none⟩ (.int .i64 x) ha rfl hl hb rfl
  refine ⟨v', w', h1, ?_, h3⟩
  rw [intVs_snoc] at h2
  have e : (l ++ [x]).length = l.length + 1 := by simp
  rw [e]
  exact h2

/-- the rounds of the reference -/
def RWOut (b : Int) (LL : List (List Int)) (w : World) (i met : Value) (wr : World) : Prop :=
  ∃ k : Nat, k ≤ LL.length ∧ i = .int .i64 k ∧ wrongF b LL = goOnB b LL k ∧ wr.ownsRow w.heap.size 3 1 met (LL.take k).flatten.length (intVs (LL.take k).flatten) ∧ KeysOk (LL.take k).flatten ∧ Ext w wr
def RWIn (b : Int) (LL : List (List Int)) (w : World) (i : Nat) (j met : Value) (wr : World) : Prop :=
  ∃ k : Nat, k ≤ (nthA LL i).length ∧ j = .int .i64 k ∧ wrongF b LL = goOn b LL i k ∧ wr.ownsRow w.heap.size 3 1 met (metL LL i k).length (intVs (metL LL i k)) ∧ KeysOk (metL LL i k) ∧ Ext w wr

set_option maxHeartbeats 4000000 in
theorem rwrong_any (b : Int) (P : Option Addr) (cap : Nat) (Q : Nat → Option Addr) (C : Nat → Nat) (LL : List (List Int)) (w : World) (h : SlA w P cap Q C LL) :
    Calls Tryd.prog 32 #[.int .i64 b, .slice P LL.length cap] w fun e w' => e = three (wrongF b LL) ∧ Ext w w' := by
  have hlen := h.len
  cases hb : roomB b with
  | false =>
    have HW := Lib.hid (wrongF_room (LL := LL) hb)
    go_enter Tryd.func32, Tryd.ntmps32
    go_wp2_with (go_at_call 48; refine (rsize_any _ _).mono ?_; rintro e w1 ⟨rfl, rfl⟩; rw [hb])
    go_ret3
    exact ⟨three_of HW.out rfl, Ext.refl _⟩
  | true =>
    have HW := Lib.hid (wrongF_scan (LL := LL) hb)
    go_enter Tryd.func32, Tryd.ntmps32
    go_wp2_with (go_at_call 48; refine (rsize_any _ _).mono ?_; rintro e w1 ⟨rfl, rfl⟩; rw [hb])
    go_loopw [8, 7, 4, 5, 6] (fun i met _ _ _ wr => RWOut b LL w i met wr) (fun i _ _ _ _ _ => LL.length - (intOf i).toNat)
    case atStart => exact ⟨0, by omega, rfl, HW.out, World.ownsRow_nil w w.heap.size 3 1, KeysOk.nil, Ext.refl w⟩
    case round =>
      obtain ⟨i, hi, rfl, HG0, hM, hK, hx⟩ := hrel
      have HG := Lib.hid HG0
      clear HG0
      by_cases hlt : i < LL.length
      · obtain ⟨bb, off, hP, hc⟩ := h.at_ i hlt
        have HC := Lib.hid hc
        replace hc := hx.cell hc
        have hrl := h.rowLen i hlt
        have c1 : (i : Int) < LL.length := by omega
        subst hP
        by_cases h0 : (nthA LL i).length = 0
        · have He := Lib.hid (HG.out.trans (goOnB_empty hlt h0))
          have c2 : (((nthA LL i).length : Int) == 0) = true := by simp [h0]
          clear HG
          go_wp2
          go_ret3
          exact ⟨three_of He.out rfl, hx⟩
        · have c2 : (((nthA LL i).length : Int) == 0) = false := by simpa using h0
          by_cases h1 : b < (nthA LL i).length
          · have He := Lib.hid (HG.out.trans (goOnB_long hlt h0 h1))
            clear HG
            go_wp2
            go_ret3
            exact ⟨three_of He.out rfl, hx⟩
          · have He := Lib.hid (HG.out.trans (goOnB_row hlt h0 h1))
            clear HG
            obtain ⟨b2, off2, hQ, _⟩ := (h.row i hlt).at_ 0 (by omega)
            rw [hQ] at hc
            have HQ := Lib.hid hQ
            clear hQ
            have hM0' : wr.ownsRow w.heap.size 3 1 u7 (metL LL i 0).length (intVs (metL LL i 0)) := by rw [metL_zero]; exact hM
            have hK0' : KeysOk (metL LL i 0) := by rw [metL_zero]; exact hK
            obtain ⟨wo, hwo⟩ : ∃ wo : World, wo = wr := ⟨_, rfl⟩
            subst hwo
            have Hend := Lib.hid (goOn_end (b := b) hlt)
            have Hmend := Lib.hid (metL_end LL i hlt)
            clear hM hK
            go_wp2
            clear hc
            go_loopw [9, 7, 4, 5, 6] (fun j met _ _ _ wr => RWIn b LL w i j met wr) (fun j _ _ _ _ _ => (nthA LL i).length - (intOf j).toNat)
            case atStart => exact ⟨0, by omega, rfl, He.out, hM0', hK0', hx⟩
            case round =>
              obtain ⟨k, hk, rfl, HJ0, hMj, hKj, hxj⟩ := hrel
              have HJ := Lib.hid HJ0
              clear HJ0 He hM0' hK0' hx
              have hco := hxj.cell HC.out
              rw [HQ.out] at hco
              obtain ⟨P', cap', rfl, hsl⟩ := slI_of_row hMj
              by_cases hkl : k < (nthA LL i).length
              · obtain ⟨b3, off3, hQ3, hck⟩ := (h.row i hlt).at_ k hkl
                rw [HQ.out] at hQ3
                simp only [Option.some.injEq, Addr.mk.injEq, and_true] at hQ3
                obtain ⟨rfl, rfl⟩ := hQ3
                have hck := hxj.cell hck
                have c3 : (k : Int) < (nthA LL i).length := by omega
                have hbad := fun hh => Lib.hid (HJ.out.trans (goOn_bad (b := b) hkl hh))
                have hfull := fun hh h5 => Lib.hid (HJ.out.trans (goOn_full (b := b) hkl hh h5))
                have hnext := fun hh h5 => Lib.hid (HJ.out.trans (goOn_next (b := b) hkl hh h5))
                have Hms := Lib.hid (metL_succ LL i k hkl)
                have hHas := fun x => has_any P' cap' (metL LL i k) x wr hsl
                generalize nthI (nthA LL i) k = x at *
                cases hkx : keyB x with
                | false =>
                  have He := hbad (.inl hkx)
                  clear hbad hfull hnext
                  go_wp2_with (go_at_call 49; refine (rkey_any _ _).mono ?_; rintro e w1 ⟨rfl, rfl⟩; rw [hkx])
                  go_ret3
                  exact ⟨three_of He.out rfl, hxj⟩
                | true =>
                  by_cases hmx : x ∈ metL LL i k
                  · have He := hbad (.inr hmx)
                    have hdm : decide (x ∈ metL LL i k) = true := decide_eq_true hmx
                    clear hbad hfull hnext
                    go_wp2_with (first
                      | (go_at_call 49; refine (rkey_any _ _).mono ?_; rintro e w1 ⟨rfl, rfl⟩; rw [hkx])
                      | (go_at_call 50; refine (hHas _).mono ?_; rintro e w1 ⟨rfl, rfl⟩; rw [hdm]))
                    go_ret3
                    exact ⟨three_of He.out rfl, hxj⟩
                  · have hno : ¬ (keyB x = false ∨ x ∈ metL LL i k) := fun hh => hh.elim (fun h => by rw [hkx] at h; cases h) hmx
                    have hdm : decide (x ∈ metL LL i k) = false := decide_eq_false hmx
                    by_cases h5 : (metL LL i k).length = 500
                    · have He := hfull hno h5
                      have c5 : (((metL LL i k).length : Int) == 500) = true := by simp [h5]
                      clear hbad hfull hnext h5 hno
                      go_wp2_with (first
                        | (go_at_call 49; refine (rkey_any _ _).mono ?_; rintro e w1 ⟨rfl, rfl⟩; rw [hkx])
                        | (go_at_call 50; refine (hHas _).mono ?_; rintro e w1 ⟨rfl, rfl⟩; rw [hdm]))
                      go_ret3
                      exact ⟨three_of He.out rfl, hxj⟩
                    · have He := hnext hno h5
                      have c5 : (((metL LL i k).length : Int) == 500) = false := by simp; omega
                      have hKn := hKj.snoc hkx hmx h5
                      rw [← Hms.out] at hKn
                      have hl5 : (metL LL i k).length ≤ 500 := hKj.2.2
                      have hxa := hxj.alloc (.cells #[.int .i64 x] 3)
                      obtain ⟨v', w2, hrun, hown2, hg2⟩ := append_int1 (wr.alloc (.cells #[.int .i64 x] 3)) w.heap.size _ (metL LL i k) x wr.heap.size (rowExt hMj ((Ext.refl wr).alloc _)) (one_at (World.alloc_heap_new wr _)) (by omega) hxa.size
                      rw [← Hms.out] at hown2
                      have hblk := hMj.lt
                      have hx2 : Ext w w2 := Below.grown hxa hg2 hxa.size (fun j hj => (hblk j hj).1)
                      clear hbad hfull hnext hno
                      go_wp2_with (first
                        | (go_at_call 49; refine (rkey_any _ _).mono ?_; rintro e w1 ⟨rfl, rfl⟩; rw [hkx])
                        | (go_at_call 50; refine (hHas _).mono ?_; rintro e w1 ⟨rfl, rfl⟩; rw [hdm])
                        | (at_builtin; refine Lib.wpList_append_run _ rfl _ _ _ _ rfl _ _ rfl rfl _ _ hrun ?_))
                      go_roundw
                      case rel => exact ⟨k + 1, by omega, by go_num, He.out, hown2, hKn, hx2⟩
                      case measure => simp [intOf]; omega
              · obtain rfl : k = (nthA LL i).length := by omega
                have hM2 : wr.ownsRow w.heap.size 3 1 (.slice P' (metL LL i (nthA LL i).length).length cap') (LL.take (i + 1)).flatten.length (intVs (LL.take (i + 1)).flatten) := by rw [← Hmend.out]; exact hMj
                have hK2 : KeysOk (LL.take (i + 1)).flatten := by rw [← Hmend.out]; exact hKj
                have HJ2 := Lib.hid (HJ.out.trans Hend.out)
                clear HJ hMj hKj hsl
                go_wp2
                go_roundw
                case rel => exact ⟨i + 1, by omega, by go_num, HJ2.out, hM2, hK2, hxj⟩
                case measure => simp [intOf]; omega
      · obtain rfl : i = LL.length := by omega
        go_wp2
        go_ret3
        exact ⟨three_of HG.out (goOnB_end b LL), hx⟩
theorem rvalid_any (b : Int) (P : Option Addr) (cap : Nat) (Q : Nat → Option Addr) (C : Nat → Nat) (LL : List (List Int)) (w : World) (h : SlA w P cap Q C LL) :
    Calls Tryd.prog 15 #[.int .i64 b, .slice P LL.length cap] w fun e w' => e = .returned (.bool (validF b LL)) ∧ Ext w w' := by
  have hW := rwrong_any b P cap Q C LL w h
  rw [validF_eq]
  generalize wrongF b LL = r at *
  obtain ⟨x, y, z⟩ := r
  simp only [three] at hW
  go_enter Tryd.func15, Tryd.ntmps15
  go_wp2_with (go_at_call 32; refine hW.mono ?_; rintro e w1 ⟨rfl, hx1⟩)
  go_ret
  exact ⟨rfl, hx1⟩
end Go.Proofs.YtgdbhmdhonnmgaaDoor
