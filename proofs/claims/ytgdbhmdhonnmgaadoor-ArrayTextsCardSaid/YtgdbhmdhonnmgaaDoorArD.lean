/- Arrays: Wrong of the program. -/
import Derived.Test.YtgdbhmdhonnmgaaDoorArC
namespace Go.Proofs.YtgdbhmdhonnmgaaDoor
open Go.RowKit Go.Maps
set_option linter.unusedVariables false
set_option maxRecDepth 20000
set_option linter.unusedSimpArgs false
set_option maxRecDepth 20000

/-- block M of the heap is the set of the numbers l -/
def MetI (w : World) (M : Nat) (l : List Int) : Prop := MetG (fun x => Lit.int .i64 x) Tryd.prog 3 4 w M l
theorem keyedI : Keyed Tryd.prog 3 := int_keyed Tryd.underlying3
theorem zeroB (w : World) : (zeroValue 4).run Tryd.prog w = .ok (.bool false) w := by kernel_rfl
theorem int_inj : ∀ x y : Int, (fun x => Lit.int .i64 x) x = (fun x => Lit.int .i64 x) y → x = y := fun x y h => by simpa using h

/-- the first k keys of block i were met, too -/
def metL (LL : List (List Int)) (i k : Nat) : List Int := (LL.take i).flatten ++ (nthA LL i).take k
theorem metL_zero (LL : List (List Int)) (i : Nat) : metL LL i 0 = (LL.take i).flatten := by simp [metL]
theorem metL_end (LL : List (List Int)) (i : Nat) (h : i < LL.length) : metL LL i (nthA LL i).length = (LL.take (i + 1)).flatten := by rw [flat_take h]; simp [metL]
theorem metL_succ (LL : List (List Int)) (i k : Nat) (h : k < (nthA LL i).length) : metL LL i (k + 1) = metL LL i k ++ [nthI (nthA LL i) k] := by
  unfold metL; rw [nthI_take h, List.append_assoc]
/-- how the search goes on at key k of block i -/
def goOn (b : Int) (LL : List (List Int)) (i k : Nat) : Int × Int × Int :=
  contW b i (LL.drop (i + 1)) ((LL.take i).flatten ++ nthA LL i) (rowW k ((nthA LL i).drop k) (metL LL i k))
def goOnB (b : Int) (LL : List (List Int)) (i : Nat) : Int × Int × Int := scanW b i (LL.drop i) (LL.take i).flatten
theorem goOnB_end (b : Int) (LL : List (List Int)) : goOnB b LL LL.length = (-1, -1, 0) := by simp [goOnB, scanW]
section
variable {b : Int} {LL : List (List Int)} {i k : Nat}
theorem goOnB_empty (hi : i < LL.length) (h : (nthA LL i).length = 0) : goOnB b LL i = ((i : Int), 0, 11) := by
  unfold goOnB; rw [nthA_drop hi, scanW_empty (List.length_eq_zero_iff.1 h)]
theorem goOnB_long (hi : i < LL.length) (h : (nthA LL i).length ≠ 0) (h1 : b < (nthA LL i).length) : goOnB b LL i = ((i : Int), b, 11) := by
  unfold goOnB; rw [nthA_drop hi, scanW_long (fun e => h (by rw [e]; rfl)) h1]
theorem goOnB_row (hi : i < LL.length) (h : (nthA LL i).length ≠ 0) (h1 : ¬ b < (nthA LL i).length) : goOnB b LL i = goOn b LL i 0 := by
  unfold goOnB goOn
  rw [nthA_drop hi, scanW_row (fun e => h (by rw [e]; rfl)) h1, metL_zero, List.drop_zero]
theorem goOn_end (hi : i < LL.length) : goOn b LL i (nthA LL i).length = goOnB b LL (i + 1) := by
  unfold goOn goOnB
  rw [List.drop_length]
  simp only [rowW, contW]
  rw [flat_take hi]
theorem goOn_bad (hk : k < (nthA LL i).length) (h : keyB (nthI (nthA LL i) k) = false ∨ nthI (nthA LL i) k ∈ metL LL i k) : goOn b LL i k = ((i : Int), (k : Int), 12) := by
  unfold goOn; rw [nthI_drop hk, rowW_bad h]; rfl
theorem goOn_full (hk : k < (nthA LL i).length) (h : ¬ (keyB (nthI (nthA LL i) k) = false ∨ nthI (nthA LL i) k ∈ metL LL i k)) (h1 : (metL LL i k).length = 500) : goOn b LL i k = ((i : Int), (k : Int), 4) := by
  unfold goOn; rw [nthI_drop hk, rowW_full h h1]; rfl
theorem goOn_next (hk : k < (nthA LL i).length) (h : ¬ (keyB (nthI (nthA LL i) k) = false ∨ nthI (nthA LL i) k ∈ metL LL i k)) (h1 : ¬ (metL LL i k).length = 500) : goOn b LL i k = goOn b LL i (k + 1) := by
  unfold goOn; rw [nthI_drop hk, rowW_next h h1, metL_succ LL i k hk]
end
theorem KeysOk.snoc {l : List Int} {x : Int} (h : KeysOk l) (h1 : keyB x = true) (h2 : x ∉ l) (h3 : ¬ l.length = 500) : KeysOk (l ++ [x]) := by
  refine ⟨fun y hy => ?_, ?_, by have := h.2.2; simp; omega⟩
  · simp at hy
    rcases hy with hy | rfl
    · exact h.1 y hy
    · exact h1
  · rw [List.nodup_append]
    refine ⟨h.2.1, by simp, fun a ha c hc => ?_⟩
    simp at hc
    subst hc
    exact fun e => h2 (e ▸ ha)

def three (r : Int × Int × Int) : Ending := .returned (.tuple #[.int .i64 r.1, .int .i64 r.2.1, .int .i64 r.2.2])
/-- the rounds over the blocks, and over a block's keys -/
def WOut (b : Int) (LL : List (List Int)) (w : World) (M : Nat) (i t4 t5 t6 : Value) (wr : World) : Prop :=
  ∃ k : Nat, k ≤ LL.length ∧ i = .int .i64 k ∧ t4 = .int .i64 (-1) ∧ t5 = .int .i64 (-1) ∧ t6 = .int .i64 0 ∧ wrongF b LL = goOnB b LL k ∧ MetI wr M (LL.take k).flatten ∧ KeysOk (LL.take k).flatten ∧ Ext w wr
def WIn (b : Int) (LL : List (List Int)) (w : World) (M i : Nat) (j t4 t5 t6 : Value) (wr : World) : Prop :=
  ∃ k : Nat, k ≤ (nthA LL i).length ∧ j = .int .i64 k ∧ t4 = .int .i64 (-1) ∧ t5 = .int .i64 (-1) ∧ t6 = .int .i64 0 ∧ wrongF b LL = goOn b LL i k ∧ MetI wr M (metL LL i k) ∧ KeysOk (metL LL i k) ∧ Ext w wr
theorem three_of {r r' : Int × Int × Int} (h : r = r') {a b c : Int} (e : r' = (a, b, c)) : Ending.returned (.tuple #[.int .i64 a, .int .i64 b, .int .i64 c]) = three r := by
  subst h; subst e; rfl

set_option maxHeartbeats 4000000 in
theorem awrong_any (b : Int) (P : Option Addr) (cap : Nat) (Q : Nat → Option Addr) (C : Nat → Nat) (LL : List (List Int)) (w : World) (h : SlA w P cap Q C LL) (hv : ∀ l ∈ LL, ∀ x ∈ l, In64 x) :
    Calls Tryd.prog 27 #[.int .i64 b, .slice P LL.length cap] w fun e w' => e = three (wrongF b LL) ∧ Ext w w' := by
  have hlen := h.len
  cases hb : roomB b with
  | false =>
    have HW := Lib.hid (wrongF_room (LL := LL) hb)
    go_enter Tryd.func27, Tryd.ntmps27
    go_wp2
    go_step3
    go_wp2_with (go_at_call 25; refine (aroom_any _ _).mono ?_; rintro e w1 ⟨rfl, rfl⟩; rw [hb])
    try rw [Exit.noGoto_ret]
    go_ret3
    exact ⟨three_of HW.out rfl, Ext.refl _⟩
  | true =>
    have HW := Lib.hid (wrongF_scan (LL := LL) hb)
    have hM0 : MetI (w.alloc (.map #[] 0)) w.heap.size [] := MetG.made w
    have hx0 := (Ext.refl w).alloc (.map #[] 0)
    have hmm := @run_makeMap Tryd.prog
    go_enter Tryd.func27, Tryd.ntmps27
    go_wp2
    go_step3
    go_wp2_with (go_at_call 25; refine (aroom_any _ _).mono ?_; rintro e w1 ⟨rfl, rfl⟩; rw [hb])
    clear hmm
    go_step3
    go_wp2
    go_loopw [18, 4, 5, 6] (fun i t4 t5 t6 wr => WOut b LL w w.heap.size i t4 t5 t6 wr) (fun i _ _ _ _ => LL.length - (intOf i).toNat)
    case atStart => exact ⟨0, by omega, rfl, rfl, rfl, rfl, HW.out, hM0, KeysOk.nil, hx0⟩
    case round =>
      obtain ⟨i, hi, rfl, rfl, rfl, rfl, HG0, hM, hK, hx⟩ := hrel
      have HG := Lib.hid HG0
      clear HG0
      by_cases hlt : i < LL.length
      · obtain ⟨bb, off, hP, hc⟩ := h.at_ i hlt
        have hc := hx.cell hc
        have hrow := (h.row i hlt).ext hx
        have hrl := h.rowLen i hlt
        have c1 : (i : Int) < LL.length := by omega
        have hvi := hv _ (nthA_mem hlt)
        subst hP
        by_cases h0 : (nthA LL i).length = 0
        · have He := Lib.hid (HG.out.trans (goOnB_empty hlt h0))
          have c2 : (((nthA LL i).length : Int) == 0) = true := by simp [h0]
          clear HG
          go_wp2
          try rw [Exit.noGoto_ret]
          go_ret3
          exact ⟨three_of He.out rfl, hx⟩
        · have c2 : (((nthA LL i).length : Int) == 0) = false := by simpa using h0
          by_cases h1 : b < (nthA LL i).length
          · have He := Lib.hid (HG.out.trans (goOnB_long hlt h0 h1))
            clear HG
            go_wp2
            try rw [Exit.noGoto_ret]
            go_ret3
            exact ⟨three_of He.out rfl, hx⟩
          · have He := Lib.hid (HG.out.trans (goOnB_row hlt h0 h1))
            clear HG
            obtain ⟨b2, off2, hQ, _⟩ := (h.row i hlt).at_ 0 (by omega)
            rw [hQ] at hc
            have HQ := Lib.hid hQ
            clear hQ
            have hM0' : MetI wr w.heap.size (metL LL i 0) := by rw [metL_zero]; exact hM
            have hK0' : KeysOk (metL LL i 0) := by rw [metL_zero]; exact hK
            obtain ⟨wo, hwo⟩ : ∃ wo : World, wo = wr := ⟨_, rfl⟩
            subst hwo
            have hend := goOn_end (b := b) hlt
            have Hend := Lib.hid hend
            have hmend := metL_end LL i hlt
            have Hmend := Lib.hid hmend
            clear hend hmend hM hK hx0 hM0
            go_wp2
            clear hc
            go_loopw [37, 4, 5, 6] (fun j t4 t5 t6 wr => WIn b LL w w.heap.size i j t4 t5 t6 wr) (fun j _ _ _ _ => (nthA LL i).length - (intOf j).toNat)
            case atStart => exact ⟨0, by omega, rfl, rfl, rfl, rfl, He.out, hM0', hK0', hx⟩
            case round =>
              obtain ⟨k, hk, rfl, rfl, rfl, rfl, HJ0, hMj, hKj, hxj⟩ := hrel
              have HJ := Lib.hid HJ0
              clear HJ0 He hM0' hK0' hx
              by_cases hkl : k < (nthA LL i).length
              · obtain ⟨b3, off3, hQ3, hck⟩ := (h.row i hlt).at_ k hkl
                rw [HQ.out] at hQ3
                simp only [Option.some.injEq, Addr.mk.injEq, and_true] at hQ3
                obtain ⟨rfl, rfl⟩ := hQ3
                have hck := hxj.cell hck
                have c3 : (k : Int) < (nthA LL i).length := by omega
                have hin := hvi _ (nthI_mem hkl)
                have hkey : keyOf Tryd.prog 3 (.int .i64 (nthI (nthA LL i) k)) = some (.int .i64 (nthI (nthA LL i) k)) := keyOf_int_mk Tryd.underlying3 hin.wf
                have hbad := fun hh => Lib.hid (HJ.out.trans (goOn_bad (b := b) hkl hh))
                have hfull := fun hh h5 => Lib.hid (HJ.out.trans (goOn_full (b := b) hkl hh h5))
                have hnext := fun hh h5 => Lib.hid (HJ.out.trans (goOn_next (b := b) hkl hh h5))
                have Hms := Lib.hid (metL_succ LL i k hkl)
                have hMlen : ∀ ty, (Builtin.len_ #[50] ty #[.map (some w.heap.size)]).run Tryd.prog wr = .ok (.int .i64 (metL LL i k).length) wr := fun ty => MetG.len hMj Tryd.underlying50 hKj.2.1 ty
                generalize nthI (nthA LL i) k = x at *
                cases hkx : keyB x with
                | false =>
                  have He := hbad (.inl hkx)
                  clear hbad hfull hnext hMlen hkey
                  go_wp2_with (go_at_call 24; refine (akey_any _ _).mono ?_; rintro e w1 ⟨rfl, rfl⟩; rw [hkx])
                  try rw [Exit.noGoto_ret]
                  go_ret3
                  exact ⟨three_of He.out rfl, hxj⟩
                | true =>
                  by_cases hmx : x ∈ metL LL i k
                  · have He := hbad (.inr hmx)
                    have hlk := MetG.look hMj keyedI Tryd.underlying50 Tryd.underlying4 (zeroB wr) hkey
                    rw [decide_eq_true hmx] at hlk
                    clear hbad hfull hnext hMlen
                    go_wp2_with (go_at_call 24; refine (akey_any _ _).mono ?_; rintro e w1 ⟨rfl, rfl⟩; rw [hkx])
                    try rw [Exit.noGoto_ret]
                    go_ret3
                    exact ⟨three_of He.out rfl, hxj⟩
                  · have hno : ¬ (keyB x = false ∨ x ∈ metL LL i k) := fun hh => hh.elim (fun h => by rw [hkx] at h; cases h) hmx
                    have hlk := MetG.look hMj keyedI Tryd.underlying50 Tryd.underlying4 (zeroB wr) hkey
                    rw [decide_eq_false hmx] at hlk
                    by_cases h5 : (metL LL i k).length = 500
                    · have He := hfull hno h5
                      rw [h5] at hMlen
                      clear hbad hfull hnext h5 hno
                      go_wp2_with (go_at_call 24; refine (akey_any _ _).mono ?_; rintro e w1 ⟨rfl, rfl⟩; rw [hkx])
                      try rw [Exit.noGoto_ret]
                      go_ret3
                      exact ⟨three_of He.out rfl, hxj⟩
                    · have He := hnext hno h5
                      have c5 : (((metL LL i k).length : Int) == 500) = false := by simp; omega
                      have hKn := hKj.snoc hkx hmx h5
                      rw [← Hms.out] at hKn
                      have hl5 : (metL LL i k).length ≤ 500 := hKj.2.2
                      clear hbad hfull hnext hno
                      go_wp2_with (first
                        | (go_at_call 24; refine (akey_any _ _).mono ?_; rintro e w1 ⟨rfl, rfl⟩; rw [hkx])
                        | (at_mapUpdate; refine wpList_store_met rfl _ _ _ 50 rfl hMj keyedI Tryd.underlying50 Tryd.underlying4 (by omega) int_inj rfl _ x rfl rfl trivial hkey ?_; intro w2 hM2 hg2; rw [← Hms.out] at hM2))
                      go_roundw
                      case rel => exact ⟨k + 1, by omega, by go_num, rfl, rfl, rfl, He.out, hM2, hKn, Below.grown hxj hg2 hxj.size (fun j hj => by injection hj with hj; omega)⟩
                      case measure => simp [intOf]; omega
              · obtain rfl : k = (nthA LL i).length := by omega
                have hM2 : MetI wr w.heap.size (LL.take (i + 1)).flatten := by rw [← Hmend.out]; exact hMj
                have hK2 : KeysOk (LL.take (i + 1)).flatten := by rw [← Hmend.out]; exact hKj
                have HJ2 := Lib.hid (HJ.out.trans Hend.out)
                clear HJ hMj hKj
                go_wp2
                go_roundw
                case rel => exact ⟨i + 1, by omega, by go_num, rfl, rfl, rfl, HJ2.out, hM2, hK2, hxj⟩
                case measure => simp [intOf]; omega
      · obtain rfl : i = LL.length := by omega
        go_wp2
        try rw [Exit.noGoto_ret]
        go_ret3
        exact ⟨three_of HG.out (goOnB_end b LL), hx⟩
end Go.Proofs.YtgdbhmdhonnmgaaDoor
