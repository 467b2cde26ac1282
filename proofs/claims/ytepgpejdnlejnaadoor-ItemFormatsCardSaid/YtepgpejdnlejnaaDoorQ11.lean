/- ItPB; ItPC (merged by group.py) -/
import Derived.Test.YtepgpejdnlejnaaDoorQ10
import Derived.Deep.RegionHeld3
import Derived.Lib.SliceRun
namespace Go.Proofs.YtepgpejdnlejnaaDoor
section
open Go.RowKit
set_option linter.unusedVariables false
set_option linter.unusedSimpArgs false
set_option linter.unusedSectionVars false
set_option maxRecDepth 20000
attribute [local go_sem] Oper.semAt_some

theorem val_info : ∃ i, Tryd.prog.info? 29 = some i ∧ i.zero = some (.agg #[.int .i64 0, .int .i64 0, .string ⟨#[]⟩]) ∧ i.size = 3 ∧ i.bytes = 32 := by
  have h : (Tryd.prog.info? 29).map (fun i => (i.zero, i.size, i.bytes)) = some (some (.agg #[.int .i64 0, .int .i64 0, .string ⟨#[]⟩]), 3, 32) := by kernel_rfl
  cases hq : Tryd.prog.info? 29 with
  | none => simp [hq] at h
  | some i => simp [hq] at h; exact ⟨i, rfl, h.1, h.2.1, h.2.2⟩
/-- a row of values that a call gives -/
def ResV (w : World) (v : Value) (l : List Vl) : Prop := ∃ P cap, v = .slice P l.length cap ∧ SlV w P cap l
theorem ResV.nil (w : World) : ResV w (.slice none 0 0) [] := ⟨none, 0, rfl, SlG.nil _ _⟩
theorem ResV.ext {w w' : World} {v : Value} {l : List Vl} (h : ResV w v l) (hx : Ext w w') : ResV w' v l := by
  obtain ⟨P, cap, e, h⟩ := h
  exact ⟨P, cap, e, h.ext hx⟩
theorem ResV.own {w : World} {base : Nat} {v : Value} {l : List Vl} (h : w.ownsRow base 29 3 v l.length (l.flatMap Vl.cells)) (hl : l.length ≤ 9223372036854775807) : ResV w v l := own_slG (cs := Vl.cells) (fun _ => rfl) h hl
theorem idxF_lt {l : List It} {s : ByteArray} (h : 0 ≤ idxF l s) : ∃ q : Nat, idxF l s = q ∧ q < l.length := by
  have := (idxF_ge l s).2
  exact ⟨(idxF l s).toNat, by omega, by omega⟩
def picked (l : List It) (r : List Vl) (names : List ByteArray) : List Vl := names.map fun n => nthV r (idxF l n).toNat
def pickF (l : List It) (r : List Vl) (names : List ByteArray) : List Vl × Int :=
  if fitsB l r = true then (if ∀ n ∈ names, 0 ≤ idxF l n then (if names.length ≤ 8 then (picked l r names, 0) else ([], 4)) else ([], 5)) else ([], 1)
theorem picked_take {l : List It} {r : List Vl} {names : List ByteArray} {k : Nat} (hk : k < names.length) : picked l r (names.take (k + 1)) = picked l r (names.take k) ++ [nthV r (idxF l (nthS names k)).toNat] := by
  unfold picked
  rw [List.take_add_one, nthS_some hk]
  simp
theorem picked_len (l : List It) (r : List Vl) (names : List ByteArray) : (picked l r names).length = names.length := by simp [picked]
theorem nameAt' {w : World} {P : Option Addr} {cap : Nat} {l : List ByteArray} (h : SlS w P cap l) (i : Nat) (hi : i < l.length) :
    ∃ b off, P = some ⟨b, off, none⟩ ∧ w.cell? ⟨b, off + i, none⟩ = some (.string (nthS l i)) := by
  obtain ⟨b, off, e, h1⟩ := h.at_ i _ (nthS_some hi)
  exact ⟨b, off, e, by have := h1 0 _ rfl; simpa using this⟩
theorem fits_len {l : List It} {r : List Vl} (h : fitsB l r = true) : l.length = r.length ∧ itemsB l = true := by
  unfold fitsB at h
  rw [Bool.and_eq_true, Bool.and_eq_true] at h
  exact ⟨of_decide_eq_true h.2.1, h.1⟩

set_option maxHeartbeats 4000000 in
theorem lnames_any (P : Option Addr) (cap : Nat) (l : List ByteArray) (w : World) (h : SlS w P cap l) :
    Calls Tryd.prog 30 #[.slice P l.length cap] w fun e w' => (∃ r : Bool, e = .returned (.bool r) ∧ (r = true → l.length ≤ 20)) ∧ w' = w := by
  have hlen := h.len
  go_enter Tryd.func30, Tryd.ntmps30
  go_wp2
  go_loopw [3] (fun i wr => ∃ k : Nat, k ≤ l.length ∧ i = .int .i64 k ∧ wr = w) (fun i _ => l.length - (intOf i).toNat)
  case atStart => exact ⟨0, by omega, rfl, rfl⟩
  case round =>
    obtain ⟨k, hk, rfl, rfl⟩ := hrel
    by_cases hl : (l.length : Int) ≤ 20
    · have HL : Hid (l.length ≤ 20) := Lib.hid (by omega)
      by_cases hlt : k < l.length
      · obtain ⟨b, off, hP, g0⟩ := nameAt' h k hlt
        subst hP
        have c1 : (k : Int) < l.length := by omega
        have d1 : IntKind.i64.wrap ((k : Int) + 1) = (k : Int) + 1 := IntWalk.i64_in _ ⟨by omega, by omega⟩
        have h20 : (k : Int) < 20 := by omega
        by_cases h100 : (100 : Int) < ((nthS l k).size : Int)
        · generalize nthS l k = x at *
          go_wp2
          go_ret
          exact ⟨⟨_, rfl, fun _ => HL.out⟩, rfl⟩
        · have h100' : decide ((100 : Int) < ((nthS l k).size : Int)) = false := decide_eq_false h100
          generalize nthS l k = x at *
          clear h100
          go_wp2
          go_roundw
          case rel => exact ⟨k + 1, by omega, by go_num, by first | trivial | rfl⟩
          case measure => simp [intOf]; omega
      · obtain rfl : k = l.length := by omega
        go_wp2
        go_ret
        exact ⟨⟨_, rfl, fun _ => HL.out⟩, rfl⟩
    · have hl' : decide ((l.length : Int) ≤ 20) = false := decide_eq_false hl
      by_cases h20 : (k : Int) < 20
      · have hlt : k < l.length := by omega
        obtain ⟨b, off, hP, g0⟩ := nameAt' h k hlt
        subst hP
        have c1 : (k : Int) < l.length := by omega
        have d1 : IntKind.i64.wrap ((k : Int) + 1) = (k : Int) + 1 := IntWalk.i64_in _ ⟨by omega, by omega⟩
        by_cases h100 : (100 : Int) < ((nthS l k).size : Int)
        · generalize nthS l k = x at *
          clear hl
          go_wp2
          go_ret
          exact ⟨⟨false, rfl, fun h => by cases h⟩, rfl⟩
        · have h100' : decide ((100 : Int) < ((nthS l k).size : Int)) = false := decide_eq_false h100
          generalize nthS l k = x at *
          clear h100 hl
          go_wp2
          go_roundw
          case rel => exact ⟨k + 1, by omega, by go_num, by first | trivial | rfl⟩
          case measure => simp [intOf]; omega
      · have h20' : decide ((k : Int) < 20) = false := decide_eq_false h20
        have c1 : (k : Int) < l.length ∨ k = l.length := by omega
        clear h20 hl
        rcases c1 with c1 | rfl
        · go_wp2
          go_ret
          exact ⟨⟨false, rfl, fun h => by cases h⟩, rfl⟩
        · go_wp2
          go_ret
          exact ⟨⟨false, rfl, fun h => by cases h⟩, rfl⟩
set_option maxHeartbeats 8000000 in
theorem pick_any (P Q R : Option Addr) (cap cap2 cap3 : Nat) (l : List It) (r : List Vl) (names : List ByteArray) (w : World) (h : SlT w P cap l) (h2 : SlV w Q cap2 r) (h3 : SlS w R cap3 names) (hn20 : names.length ≤ 20) :
    Calls Tryd.prog 34 #[.slice P l.length cap, .slice Q r.length cap2, .slice R names.length cap3] w fun e w' => (∃ v, e = .returned (.tuple #[v, .int .i64 (pickF l r names).2]) ∧ ResV w' v (pickF l r names).1) ∧ Ext w w' := by
  have hlen := h.len
  have hlen2 := h2.len
  have hlen3 := h3.len
  have hF := fits_any P Q cap cap2 l r w h h2
  obtain ⟨i0, hi, hz0, hz1, hz2⟩ := val_info
  cases hf : fitsB l r with
  | false =>
    have HB := Lib.hid (show pickF l r names = ([], 1) from by simp [pickF, hf])
    rw [hf] at hF
    try rw [HB.out]
    go_enter Tryd.func34, Tryd.ntmps34
    go_wp2_with (go_at_call 22; refine hF.mono ?_; rintro e w1 ⟨rfl, hx1⟩)
    go_ret2
    exact ⟨⟨_, rfl, ResV.nil _⟩, hx1⟩
  | true =>
    obtain ⟨hlr, _⟩ := fits_len hf
    have HLR := Lib.hid hlr
    have HFF := Lib.hid hf
    rw [hf] at hF
    clear hlr hf
    go_enter Tryd.func34, Tryd.ntmps34
    go_wp2_with (go_at_call 22; refine hF.mono ?_; rintro e w1 ⟨rfl, hx1⟩)
    go_loopw [18, 8, 10, 11] (fun i v _ _ wr => ∃ k : Nat, k ≤ names.length ∧ i = .int .i64 k ∧ (∀ j, j < k → 0 ≤ idxF l (nthS names j)) ∧ wr.ownsRow w.heap.size 29 3 v k ((picked l r (names.take k)).flatMap Vl.cells) ∧ Ext w wr) (fun i _ _ _ _ => names.length - (intOf i).toNat)
    case atStart => exact ⟨0, by omega, rfl, by intro j hj; omega, World.ownsRow_nil _ _ _ _, hx1⟩
    case round =>
      obtain ⟨k, hk, rfl, hall, hown, hx⟩ := hrel
      by_cases hlt : k < names.length
      · obtain ⟨b, off, hP, g0⟩ := nameAt' h3 k hlt
        subst hP
        have g0 := hx.cell g0
        have c1 : (k : Int) < names.length := by omega
        have d1 : IntKind.i64.wrap ((k : Int) + 1) = (k : Int) + 1 := IntWalk.i64_in _ ⟨by omega, by omega⟩
        by_cases hz : 0 ≤ idxF l (nthS names k)
        · obtain ⟨q, hq, hql⟩ := idxF_lt hz
          obtain ⟨b2, off2, hQ, q0, q1, q2⟩ := h2.valAt q (by have := HLR.out; omega)
          subst hQ
          have q0 := hx.cell q0
          have q1 := hx.cell q1
          have q2 := hx.cell q2
          have c2 : (q : Int) < r.length := by have := HLR.out; omega
          have c3 : ¬ (q : Int) < 0 := by omega
          have Hs := Lib.hid (show (picked l r (names.take (k + 1))).flatMap Vl.cells = (picked l r (names.take k)).flatMap Vl.cells ++ [.int .i64 (nthV r q).1, .int .i64 (nthV r q).2.1, .string (nthV r q).2.2] from by
            rw [picked_take hlt, List.flatMap_append, hq]
            simp [Vl.cells])
          have Hy : Hid (∀ j, j < k + 1 → 0 ≤ idxF l (nthS names j)) := Lib.hid (fun j hj => by
            by_cases hjk : j = k
            · subst hjk; exact hz
            · exact hall j (by omega))
          have HQ := Lib.hid hq
          generalize nthV r q = y at *
          generalize nthS names k = s at *
          clear hall hz hq
          go_wp2_with (first
            | (go_at_call 71; refine (place_any P cap l _ _ (h.ext hx)).mono ?_; rintro e w2 ⟨rfl, hx2⟩; rw [HQ.out]; have q0 := hx2.cell q0; have q1 := hx2.cell q1; have q2 := hx2.cell q2)
            | (at_builtin; refine wpList_append_own _ rfl _ _ 23 rfl w.heap.size 29 i0 (.agg #[.int .i64 0, .int .i64 0, .string ⟨#[]⟩]) 3 32 Tryd.underlying23 hi hz0 hz1 hz2 rfl (by decide) _ _ _ rfl (own_ext hown ((hx2).alloc _)) ⟨w2.heap.size, 0, none⟩ 1 1 [.int .i64 y.1, .int .i64 y.2.1, .string y.2.2] rfl rfl ?c1 ?c2 ?c3 ?c4 ?c5 ?_))
          case c1 =>
            intro j u hj
            match j, hj with
            | 0, hj => simp at hj; subst hj; simp [Addr.add]
            | 1, hj => simp at hj; subst hj; simp [Addr.add]
            | 2, hj => simp at hj; subst hj; simp [Addr.add]
          case c2 => intro u hu; simp at hu; rcases hu with rfl | rfl | rfl <;> rfl
          case c3 => unfold maxLen; omega
          case c4 => omega
          case c5 => have := hx.size; have := hx2.size; simp; omega
          intro v' w3 hown' hgrow hne
          go_wp2
          go_roundw
          case rel => exact ⟨k + 1, by omega, by go_num, Hy.out, by rw [Hs.out]; exact hown', Below.grown ((hx.trans hx2).alloc _) hgrow (by have := hx.size; have := hx2.size; simp; omega) (fun j hj => (hown.lt j hj).1)⟩
          case measure => simp [intOf]; omega
        · have HB := Lib.hid (show pickF l r names = ([], 5) from by
            unfold pickF
            rw [if_pos HFF.out, if_neg (fun hh => hz (hh _ (nthS_mem hlt)))])
          have hz1 : idxF l (nthS names k) < 0 := by omega
          have HQ : Hid ((0 : Int) = 0) := Lib.hid rfl
          generalize nthS names k = s at *
          clear hall hz
          go_wp2_with (first
            | (go_at_call 71; refine (place_any P cap l _ _ (h.ext hx)).mono ?_; rintro e w2 ⟨rfl, hx2⟩))
          go_ret2
          exact ⟨⟨_, by rw [HB.out]; rfl, by rw [HB.out]; exact ResV.nil _⟩, hx.trans hx2⟩
      · obtain rfl : k = names.length := by omega
        have hallm : ∀ n ∈ names, 0 ≤ idxF l n := fun n hn => by
          obtain ⟨j, hj, rfl⟩ := List.getElem_of_mem hn
          have := hall j hj
          rwa [show nthS names j = names[j] from by simp [nthS, hj]] at this
        have HP := Lib.hid (show pickF l r names = if names.length ≤ 8 then (picked l r names, 0) else ([], 4) from by
          unfold pickF
          rw [if_pos HFF.out, if_pos hallm])
        rw [List.take_length] at hown
        rw [← picked_len l r names] at hown
        obtain ⟨P9, cap9, hv9, s9⟩ := ResV.own hown (by rw [picked_len]; omega)
        rw [picked_len] at hv9
        have S9 := Lib.hid s9
        subst hv9
        clear hall hallm hown s9
        by_cases h8 : names.length ≤ 8
        · have h8' : decide ((8 : Int) < names.length) = false := decide_eq_false (by omega)
          have h8b : ¬ (8 : Int) < names.length := by omega
          have HB := Lib.hid (HP.out.trans (if_pos h8))
          clear h8
          go_wp2
          go_ret2
          exact ⟨⟨_, by rw [HB.out]; rfl, by rw [HB.out]; exact ⟨_, _, by rw [picked_len]; rfl, S9.out⟩⟩, hx⟩
        · have h8' : (8 : Int) < names.length := by omega
          have HB := Lib.hid (HP.out.trans (if_neg h8))
          clear h8
          go_wp2
          go_ret2
          exact ⟨⟨_, by rw [HB.out]; rfl, by rw [HB.out]; exact ResV.nil _⟩, hx⟩
set_option maxHeartbeats 8000000 in
theorem rpick_any (P Q R : Option Addr) (cap cap2 cap3 : Nat) (l : List It) (r : List Vl) (names : List ByteArray) (w : World) (h : SlT w P cap l) (h2 : SlV w Q cap2 r) (h3 : SlS w R cap3 names) (hn20 : names.length ≤ 20) :
    Calls Tryd.prog 37 #[.slice P l.length cap, .slice Q r.length cap2, .slice R names.length cap3] w fun e w' => (∃ v, e = .returned (.tuple #[v, .int .i64 (pickF l r names).2]) ∧ ResV w' v (pickF l r names).1) ∧ Ext w w' := by
  have hlen := h.len
  have hlen2 := h2.len
  have hlen3 := h3.len
  have hF := rfits_any P Q cap cap2 l r w h h2
  obtain ⟨i0, hi, hz0, hz1, hz2⟩ := val_info
  cases hf : fitsB l r with
  | false =>
    have HB := Lib.hid (show pickF l r names = ([], 1) from by simp [pickF, hf])
    rw [hf] at hF
    try rw [HB.out]
    go_enter Tryd.func37, Tryd.ntmps37
    go_wp2_with (go_at_call 23; refine hF.mono ?_; rintro e w1 ⟨rfl, hx1⟩)
    go_ret2
    exact ⟨⟨_, rfl, ResV.nil _⟩, hx1⟩
  | true =>
    obtain ⟨hlr, _⟩ := fits_len hf
    have HLR := Lib.hid hlr
    have HFF := Lib.hid hf
    rw [hf] at hF
    clear hlr hf
    go_enter Tryd.func37, Tryd.ntmps37
    go_wp2_with (go_at_call 23; refine hF.mono ?_; rintro e w1 ⟨rfl, hx1⟩)
    go_loopw [9, 8, 10] (fun i v _ wr => ∃ k : Nat, k ≤ names.length ∧ i = .int .i64 k ∧ (∀ j, j < k → 0 ≤ idxF l (nthS names j)) ∧ wr.ownsRow w.heap.size 29 3 v k ((picked l r (names.take k)).flatMap Vl.cells) ∧ Ext w wr) (fun i _ _ _ => names.length - (intOf i).toNat)
    case atStart => exact ⟨0, by omega, rfl, by intro j hj; omega, World.ownsRow_nil _ _ _ _, hx1⟩
    case round =>
      obtain ⟨k, hk, rfl, hall, hown, hx⟩ := hrel
      by_cases hlt : k < names.length
      · obtain ⟨b, off, hP, g0⟩ := nameAt' h3 k hlt
        subst hP
        have g0 := hx.cell g0
        have c1 : (k : Int) < names.length := by omega
        have d1 : IntKind.i64.wrap ((k : Int) + 1) = (k : Int) + 1 := IntWalk.i64_in _ ⟨by omega, by omega⟩
        by_cases hz : 0 ≤ idxF l (nthS names k)
        · obtain ⟨q, hq, hql⟩ := idxF_lt hz
          obtain ⟨b2, off2, hQ, q0, q1, q2⟩ := h2.valAt q (by have := HLR.out; omega)
          subst hQ
          have q0 := hx.cell q0
          have q1 := hx.cell q1
          have q2 := hx.cell q2
          have c2 : (q : Int) < r.length := by have := HLR.out; omega
          have c3 : ¬ (q : Int) < 0 := by omega
          have Hs := Lib.hid (show (picked l r (names.take (k + 1))).flatMap Vl.cells = (picked l r (names.take k)).flatMap Vl.cells ++ [.int .i64 (nthV r q).1, .int .i64 (nthV r q).2.1, .string (nthV r q).2.2] from by
            rw [picked_take hlt, List.flatMap_append, hq]
            simp [Vl.cells])
          have Hy : Hid (∀ j, j < k + 1 → 0 ≤ idxF l (nthS names j)) := Lib.hid (fun j hj => by
            by_cases hjk : j = k
            · subst hjk; exact hz
            · exact hall j (by omega))
          have HQ := Lib.hid hq
          generalize nthV r q = y at *
          generalize nthS names k = s at *
          clear hall hz hq
          go_wp2_with (first
            | (go_at_call 72; refine (rindex_any P cap l _ _ (h.ext hx)).mono ?_; rintro e w2 ⟨rfl, rfl⟩; rw [HQ.out])
            | (at_builtin; refine wpList_append_own _ rfl _ _ 23 rfl w.heap.size 29 i0 (.agg #[.int .i64 0, .int .i64 0, .string ⟨#[]⟩]) 3 32 Tryd.underlying23 hi hz0 hz1 hz2 rfl (by decide) _ _ _ rfl (own_ext hown ((Ext.refl _).alloc _)) ⟨w2.heap.size, 0, none⟩ 1 1 [.int .i64 y.1, .int .i64 y.2.1, .string y.2.2] rfl rfl ?c1 ?c2 ?c3 ?c4 ?c5 ?_))
          case c1 =>
            intro j u hj
            match j, hj with
            | 0, hj => simp at hj; subst hj; simp [Addr.add]
            | 1, hj => simp at hj; subst hj; simp [Addr.add]
            | 2, hj => simp at hj; subst hj; simp [Addr.add]
          case c2 => intro u hu; simp at hu; rcases hu with rfl | rfl | rfl <;> rfl
          case c3 => unfold maxLen; omega
          case c4 => omega
          case c5 => have := hx.size; simp; omega
          intro v' w3 hown' hgrow hne
          go_wp2
          go_roundw
          case rel => exact ⟨k + 1, by omega, by go_num, Hy.out, by rw [Hs.out]; exact hown', Below.grown (hx.alloc _) hgrow (by have := hx.size; simp; omega) (fun j hj => (hown.lt j hj).1)⟩
          case measure => simp [intOf]; omega
        · have HB := Lib.hid (show pickF l r names = ([], 5) from by
            unfold pickF
            rw [if_pos HFF.out, if_neg (fun hh => hz (hh _ (nthS_mem hlt)))])
          have hz1 : idxF l (nthS names k) < 0 := by omega
          have HQ : Hid ((0 : Int) = 0) := Lib.hid rfl
          generalize nthS names k = s at *
          clear hall hz
          go_wp2_with (first
            | (go_at_call 72; refine (rindex_any P cap l _ _ (h.ext hx)).mono ?_; rintro e w2 ⟨rfl, rfl⟩))
          go_ret2
          exact ⟨⟨_, by rw [HB.out]; rfl, by rw [HB.out]; exact ResV.nil _⟩, hx⟩
      · obtain rfl : k = names.length := by omega
        have hallm : ∀ n ∈ names, 0 ≤ idxF l n := fun n hn => by
          obtain ⟨j, hj, rfl⟩ := List.getElem_of_mem hn
          have := hall j hj
          rwa [show nthS names j = names[j] from by simp [nthS, hj]] at this
        have HP := Lib.hid (show pickF l r names = if names.length ≤ 8 then (picked l r names, 0) else ([], 4) from by
          unfold pickF
          rw [if_pos HFF.out, if_pos hallm])
        rw [List.take_length] at hown
        rw [← picked_len l r names] at hown
        obtain ⟨P9, cap9, hv9, s9⟩ := ResV.own hown (by rw [picked_len]; omega)
        rw [picked_len] at hv9
        have S9 := Lib.hid s9
        subst hv9
        clear hall hallm hown s9
        by_cases h8 : names.length ≤ 8
        · have h8' : decide ((8 : Int) < names.length) = false := decide_eq_false (by omega)
          have h8b : ¬ (8 : Int) < names.length := by omega
          have HB := Lib.hid (HP.out.trans (if_pos h8))
          clear h8
          go_wp2
          go_ret2
          exact ⟨⟨_, by rw [HB.out]; rfl, by rw [HB.out]; exact ⟨_, _, by rw [picked_len]; rfl, S9.out⟩⟩, hx⟩
        · have h8' : (8 : Int) < names.length := by omega
          have HB := Lib.hid (HP.out.trans (if_neg h8))
          clear h8
          go_wp2
          go_ret2
          exact ⟨⟨_, by rw [HB.out]; rfl, by rw [HB.out]; exact ResV.nil _⟩, hx⟩
end
section
open Go.RowKit
set_option linter.unusedVariables false
set_option linter.unusedSimpArgs false
set_option linter.unusedSectionVars false
set_option maxRecDepth 20000
attribute [local go_sem] Oper.semAt_some

/-- a copy of a list, of the call's own -/
def ResO {α : Type} (cs : α → List Value) (e : TypeId) (k : Nat) (w : World) (base : Nat) (v : Value) (l : List α) : Prop := ∃ P cap, v = .slice P l.length cap ∧ OwnG cs e k w base v l
theorem OwnG.res {α : Type} {cs : α → List Value} {t e : TypeId} {k bytes : Nat} (E : ElemG cs t e k bytes) {w : World} {base : Nat} {v : Value} {l : List α} (h : OwnG cs e k w base v l) (hl : l.length ≤ 9223372036854775807) : ResO cs e k w base v l := by
  obtain ⟨P, cap, e, _⟩ := h.slG E hl
  exact ⟨P, cap, e, h⟩

set_option maxHeartbeats 4000000 in
theorem clonev_any (P : Option Addr) (cap : Nat) (l : List Vl) (w : World) (h : SlG Vl.cells w P cap l) (h2 : l.length ≤ 100000) (h3 : P = none → cap = 0) :
    Calls Tryd.prog 74 #[.slice P l.length cap] w fun e w' => (∃ v, e = .returned v ∧ OwnG Vl.cells 29 3 w' w.heap.size v l) ∧ Ext w w' := by
  have hlen := h.len
  have qT : ∀ (w : World) (a : Option Addr) (n c n' c' : Nat), (binOp .eql 23 (.slice a n c) (.slice none n' c')).run Tryd.prog w = .ok (.bool a.isNone) w := fun w a n c n' c' => Lib.run_eql_slice_nil w _ _ a n c n' c' Tryd.underlying23
  cases P with
  | none =>
    obtain rfl := h3 rfl
    obtain rfl : l = [] := List.length_eq_zero_iff.1 (by have := h.le; omega)
    go_enter Tryd.func74, Tryd.ntmps74
    go_wp2
    go_ret
    exact ⟨⟨_, rfl, OwnG.nil _ _ _ _ _⟩, Ext.refl _⟩
  | some ad =>
    go_enter Tryd.func74, Tryd.ntmps74
    go_wp2_with (at_builtin; refine wpList_app_G _ elemV rfl _ _ rfl (base := w.heap.size) (l := []) rfl (OwnG.lit0 (Nat.le_refl _)) rfl (h.ext ((Ext.refl _).alloc _)) (fun h => by cases h) (by simp; omega) (by simp; omega) (by simp) ?_)
    intro v' w' ho hb
    go_wp2
    go_ret
    exact ⟨⟨_, rfl, ho⟩, below_ext ((Ext.refl _).alloc _) hb (Nat.le_refl _)⟩

set_option maxHeartbeats 4000000 in
theorem clonet_any (P : Option Addr) (cap : Nat) (l : List It) (w : World) (h : SlG It.cells w P cap l) (h2 : l.length ≤ 100000) (h3 : P = none → cap = 0) :
    Calls Tryd.prog 73 #[.slice P l.length cap] w fun e w' => (∃ v, e = .returned v ∧ OwnG It.cells 32 5 w' w.heap.size v l) ∧ Ext w w' := by
  have hlen := h.len
  have qT : ∀ (w : World) (a : Option Addr) (n c n' c' : Nat), (binOp .eql 22 (.slice a n c) (.slice none n' c')).run Tryd.prog w = .ok (.bool a.isNone) w := fun w a n c n' c' => Lib.run_eql_slice_nil w _ _ a n c n' c' Tryd.underlying22
  cases P with
  | none =>
    obtain rfl := h3 rfl
    obtain rfl : l = [] := List.length_eq_zero_iff.1 (by have := h.le; omega)
    go_enter Tryd.func73, Tryd.ntmps73
    go_wp2
    go_ret
    exact ⟨⟨_, rfl, OwnG.nil _ _ _ _ _⟩, Ext.refl _⟩
  | some ad =>
    go_enter Tryd.func73, Tryd.ntmps73
    go_wp2_with (at_builtin; refine wpList_app_G _ elemT rfl _ _ rfl (base := w.heap.size) (l := []) rfl (OwnG.lit0 (Nat.le_refl _)) rfl (h.ext ((Ext.refl _).alloc _)) (fun h => by cases h) (by simp; omega) (by simp; omega) (by simp) ?_)
    intro v' w' ho hb
    go_wp2
    go_ret
    exact ⟨⟨_, rfl, ho⟩, below_ext ((Ext.refl _).alloc _) hb (Nat.le_refl _)⟩

theorem items_le8 {l : List It} (h : itemsB l = true) : l.length ≤ 8 := by
  unfold itemsB knownB at h
  simp only [Bool.and_eq_true, decide_eq_true_eq] at h
  exact h.2.2
theorem items_pos {l : List It} (h : itemsB l = true) : 0 < l.length := by
  unfold itemsB at h
  simp only [Bool.and_eq_true, decide_eq_true_eq] at h
  exact h.1
def putF (l : List It) (r : List Vl) (n : ByteArray) (v : Vl) : List Vl × Int :=
  if fitsB l r = true then (if 0 ≤ idxF l n then (if valB v = true then (if fitB (nthT l (idxF l n).toNat) v = true then (r.set (idxF l n).toNat v, 0) else ([], 7)) else ([], 1)) else ([], 5)) else ([], 1)
set_option maxHeartbeats 8000000 in
theorem put_any (P Q : Option Addr) (cap cap2 : Nat) (l : List It) (r : List Vl) (s : ByteArray) (v : Vl) (w : World) (h : SlT w P cap l) (h2 : SlV w Q cap2 r) :
    Calls Tryd.prog 40 #[.slice P l.length cap, .slice Q r.length cap2, .string s, v.v] w fun e w' => (∃ u, e = .returned (.tuple #[u, .int .i64 (putF l r s v).2]) ∧ ResV w' u (putF l r s v).1) ∧ Ext w w' := by
  have hlen := h.len
  have hlen2 := h2.len
  have hF := fun W hx => fits_any P Q cap cap2 l r W (h.ext hx) (h2.ext hx)
  obtain ⟨vk, vn, vs⟩ := v
  show Calls _ _ #[_, _, _, .agg #[.int .i64 vk, .int .i64 vn, .string vs]] _ _
  have hbox : ∀ W t, Ext (w.alloc (.cells #[.int .i64 vk, .int .i64 vn, .string vs] t)) W → W.cell? ⟨w.heap.size, 0, none⟩ = some (.int .i64 vk) ∧ W.cell? ⟨w.heap.size, 1, none⟩ = some (.int .i64 vn) ∧ W.cell? ⟨w.heap.size, 2, none⟩ = some (.string vs) := fun W t hx =>
    ⟨hx.cell ((World.cell?_alloc_mark _ _ _ _ 0).trans rfl), hx.cell ((World.cell?_alloc_mark _ _ _ _ 1).trans rfl), hx.cell ((World.cell?_alloc_mark _ _ _ _ 2).trans rfl)⟩
  have hb0 := fun t => (Ext.refl w).alloc (.cells #[.int .i64 vk, .int .i64 vn, .string vs] t)
  cases hf : fitsB l r with
  | false =>
    have HB := Lib.hid (show putF l r s (vk, vn, vs) = ([], 1) from by simp [putF, hf])
    simp only [hf] at hF
    rw [HB.out]
    go_enter Tryd.func40, Tryd.ntmps40
    go_wp2_with (go_at_call 22; refine (hF _ (hb0 _)).mono ?_; rintro e w1 ⟨rfl, hx1⟩)
    go_ret2
    exact ⟨⟨_, rfl, ResV.nil _⟩, (hb0 _).trans hx1⟩
  | true =>
    simp only [hf] at hF
    obtain ⟨hlr, hit⟩ := fits_len hf
    have hr : r.length ≤ 100000 := by have := items_le8 hit; omega
    have hq : Q = none → cap2 = 0 := by
      intro e
      obtain ⟨b, off, e2, _⟩ := h2.at_ 0 _ (nthV_some (by have := items_pos hit; omega))
      rw [e] at e2; cases e2
    clear hit
    by_cases hz : 0 ≤ idxF l s
    · obtain ⟨q, hq0, hql⟩ := idxF_lt hz
      have hI := fun W hx => place_any P cap l s W (h.ext hx)
      simp only [hq0] at hI
      have hq3 : ¬ (q : Int) < 0 := by omega
      have hqr : (q : Int) < r.length := by omega
      have hql' : (q : Int) < l.length := by omega
      have hV := fun W => value_any (vk, vn, vs) W
      unfold Vl.v at hV
      simp only at hV
      cases hv : valB (vk, vn, vs) with
      | false =>
        have HB := Lib.hid (show putF l r s (vk, vn, vs) = ([], 1) from by simp [putF, hf, hz, hv])
        simp only [hv] at hV
        rw [HB.out]
        clear hz hlr hf hv hq0
        go_enter Tryd.func40, Tryd.ntmps40
        go_wp2_with (first
          | (go_at_call 22; refine (hF _ (hb0 _)).mono ?_; rintro e w1 ⟨rfl, hx1⟩)
          | (go_at_call 71; refine (hI _ ((hb0 _).trans hx1)).mono ?_; rintro e w2 ⟨rfl, hx2⟩; obtain ⟨x0, x1, x2⟩ := hbox _ _ (hx1.trans hx2))
          | (go_at_call 12; refine (hV _).mono ?_; rintro e w3 ⟨rfl, hx3⟩))
        go_ret2
        exact ⟨⟨_, rfl, ResV.nil _⟩, (((hb0 _).trans hx1).trans hx2).trans hx3⟩
      | true =>
        simp only [hv] at hV
        obtain ⟨b, off, hP, g0, g1, g2, g3, g4⟩ := h.itemAt q hql
        subst hP
        have hT := fun W => takes_any (nthT l q) (vk, vn, vs) W
        unfold It.v Vl.v at hT
        simp only at hT
        cases ht : fitB (nthT l q) (vk, vn, vs) with
        | false =>
          have HB := Lib.hid (show putF l r s (vk, vn, vs) = ([], 7) from by simp [putF, hf, hz, hv, hq0, ht])
          simp only [ht] at hT
          rw [HB.out]
          generalize nthT l q = x at *
          clear hz hlr hf hv hq0 ht
          go_enter Tryd.func40, Tryd.ntmps40
          go_wp2_with (first
            | (go_at_call 22; refine (hF _ (hb0 _)).mono ?_; rintro e w1 ⟨rfl, hx1⟩)
            | (go_at_call 71; refine (hI _ ((hb0 _).trans hx1)).mono ?_; rintro e w2 ⟨rfl, hx2⟩; obtain ⟨x0, x1, x2⟩ := hbox _ _ (hx1.trans hx2))
            | (go_at_call 12; refine (hV _).mono ?_; rintro e w3 ⟨rfl, hx3⟩; have hx03 := (((hb0 _).trans hx1).trans hx2).trans hx3; have x0 := hx3.cell x0; have x1 := hx3.cell x1; have x2 := hx3.cell x2; have g0 := hx03.cell g0; have g1 := hx03.cell g1; have g2 := hx03.cell g2; have g3 := hx03.cell g3; have g4 := hx03.cell g4))
          go_region_held3 (fun w' => w'.cell? ⟨b, off + q * 5, none⟩ = some (.string x.1) ∧ w'.cell? ⟨b, off + q * 5 + 1, none⟩ = some (.int .i64 x.2.1) ∧ w'.cell? ⟨b, off + q * 5 + 2, none⟩ = some (.int .i64 x.2.2.1) ∧ w'.cell? ⟨b, off + q * 5 + 3, none⟩ = some (.int .i64 x.2.2.2.1) ∧ w'.cell? ⟨b, off + q * 5 + 4, none⟩ = some (.int .i64 x.2.2.2.2) ∧ w'.cell? ⟨w.heap.size, 0, none⟩ = some (.int .i64 vk) ∧ w'.cell? ⟨w.heap.size, 1, none⟩ = some (.int .i64 vn) ∧ w'.cell? ⟨w.heap.size, 2, none⟩ = some (.string vs)) (go_keep)
            (first
              | (go_at_call 62; refine (hT _).mono ?_; rintro e w4 ⟨rfl, hx4⟩; have y0 := hx4.cell g0; have y1 := hx4.cell g1; have y2 := hx4.cell g2; have y3 := hx4.cell g3; have y4 := hx4.cell g4; have y5 := hx4.cell x0; have y6 := hx4.cell x1; have y7 := hx4.cell x2)
              | fail)
          go_wp2
          go_ret2
          exact ⟨⟨_, rfl, ResV.nil _⟩, hx03.drew.trans hx4⟩
        | true =>
          have HB := Lib.hid (show putF l r s (vk, vn, vs) = (r.set q (vk, vn, vs), 0) from by simp [putF, hf, hz, hv, hq0, ht])
          simp only [ht] at hT
          rw [HB.out]
          have hC := fun W hx => clonev_any Q cap2 r W (h2.ext hx) hr hq
          generalize nthT l q = x at *
          clear hz hlr hf hv hq0 ht
          go_enter Tryd.func40, Tryd.ntmps40
          go_wp2_with (first
            | (go_at_call 22; refine (hF _ (hb0 _)).mono ?_; rintro e w1 ⟨rfl, hx1⟩)
            | (go_at_call 71; refine (hI _ ((hb0 _).trans hx1)).mono ?_; rintro e w2 ⟨rfl, hx2⟩; obtain ⟨x0, x1, x2⟩ := hbox _ _ (hx1.trans hx2))
            | (go_at_call 12; refine (hV _).mono ?_; rintro e w3 ⟨rfl, hx3⟩; have hx03 := (((hb0 _).trans hx1).trans hx2).trans hx3; have x0 := hx3.cell x0; have x1 := hx3.cell x1; have x2 := hx3.cell x2; have g0 := hx03.cell g0; have g1 := hx03.cell g1; have g2 := hx03.cell g2; have g3 := hx03.cell g3; have g4 := hx03.cell g4))
          go_region_held3 (fun w' => w'.cell? ⟨b, off + q * 5, none⟩ = some (.string x.1) ∧ w'.cell? ⟨b, off + q * 5 + 1, none⟩ = some (.int .i64 x.2.1) ∧ w'.cell? ⟨b, off + q * 5 + 2, none⟩ = some (.int .i64 x.2.2.1) ∧ w'.cell? ⟨b, off + q * 5 + 3, none⟩ = some (.int .i64 x.2.2.2.1) ∧ w'.cell? ⟨b, off + q * 5 + 4, none⟩ = some (.int .i64 x.2.2.2.2) ∧ w'.cell? ⟨w.heap.size, 0, none⟩ = some (.int .i64 vk) ∧ w'.cell? ⟨w.heap.size, 1, none⟩ = some (.int .i64 vn) ∧ w'.cell? ⟨w.heap.size, 2, none⟩ = some (.string vs)) (go_keep)
            (first
              | (go_at_call 62; refine (hT _).mono ?_; rintro e w4 ⟨rfl, hx4⟩; have y0 := hx4.cell g0; have y1 := hx4.cell g1; have y2 := hx4.cell g2; have y3 := hx4.cell g3; have y4 := hx4.cell g4; have y5 := hx4.cell x0; have y6 := hx4.cell x1; have y7 := hx4.cell x2)
              | fail)
          have hx04 := hx03.drew.trans hx4
          go_wp2_with (first
            | (go_at_call 74; refine (hC _ hx04).mono ?_; rintro e w5 ⟨⟨u, rfl, hown⟩, hx5⟩; have z0 := hx5.cell y5; have z1 := hx5.cell y6; have z2 := hx5.cell y7; obtain ⟨g, c5, rfl, hg1, hg2, hg3, hg4⟩ := hown.tight (by omega); have m0 := hown.cell elemV.hk rfl q _ (nthV_some (by omega)) 0 _ rfl; have m1 := hown.cell elemV.hk rfl q _ (nthV_some (by omega)) 1 _ rfl; have m2 := hown.cell elemV.hk rfl q _ (nthV_some (by omega)) 2 _ rfl; have n0 := hown.frozen rfl (q * 3); have n1 := hown.frozen rfl (q * 3 + 1); have n2 := hown.frozen rfl (q * 3 + 2); simp only [Nat.add_zero] at m0; generalize nthV r q = y at m0 m1 m2; clear hF hI hV hT hC))
          go_ret2
          refine ⟨⟨.slice (some ⟨g, 0, none⟩) r.length c5, rfl, ?_⟩, (((hx04.trans hx5).setCell (by have := hx04.size; simp; omega) _).setCell (by have := hx04.size; simp; omega) _).setCell (by have := hx04.size; simp; omega) _⟩
          have hs := hown.setV rfl q (by omega) (vk, vn, vs)
          rw [show r.length = (r.set q (vk, vn, vs)).length from by simp] at hs
          exact ⟨_, _, by rw [show (r.set q (vk, vn, vs)).length = r.length from by simp], (OwnG.slG elemV hs (by simp; omega)).elim fun P9 ⟨c9, e9, s9⟩ => by cases e9; exact s9⟩
    · have HB := Lib.hid (show putF l r s (vk, vn, vs) = ([], 5) from by simp [putF, hf, hz])
      have hI := fun W hx => place_any P cap l s W (h.ext hx)
      have hz1 : idxF l s < 0 := by omega
      rw [HB.out]
      generalize idxF l s = z at *
      clear hz hlr hf
      go_enter Tryd.func40, Tryd.ntmps40
      go_wp2_with (first
        | (go_at_call 22; refine (hF _ (hb0 _)).mono ?_; rintro e w1 ⟨rfl, hx1⟩)
        | (go_at_call 71; refine (hI _ ((hb0 _).trans hx1)).mono ?_; rintro e w2 ⟨rfl, hx2⟩))
      go_ret2
      exact ⟨⟨_, rfl, ResV.nil _⟩, ((hb0 _).trans hx1).trans hx2⟩
theorem rindexX_any (P : Option Addr) (cap : Nat) (l : List It) (s : ByteArray) (w : World) (h : SlT w P cap l) :
    Calls Tryd.prog 72 #[.slice P l.length cap, .string s] w fun e w' => e = .returned (.int .i64 (idxF l s)) ∧ Ext w w' :=
  (rindex_any P cap l s w h).mono fun e w' ⟨h1, h2⟩ => ⟨h1, h2 ▸ Ext.refl _⟩
set_option maxHeartbeats 8000000 in
theorem rput_any (P Q : Option Addr) (cap cap2 : Nat) (l : List It) (r : List Vl) (s : ByteArray) (v : Vl) (w : World) (h : SlT w P cap l) (h2 : SlV w Q cap2 r) :
    Calls Tryd.prog 41 #[.slice P l.length cap, .slice Q r.length cap2, .string s, v.v] w fun e w' => (∃ u, e = .returned (.tuple #[u, .int .i64 (putF l r s v).2]) ∧ ResV w' u (putF l r s v).1) ∧ Ext w w' := by
  have hlen := h.len
  have hlen2 := h2.len
  have hF := fun W hx => rfits_any P Q cap cap2 l r W (h.ext hx) (h2.ext hx)
  obtain ⟨vk, vn, vs⟩ := v
  show Calls _ _ #[_, _, _, .agg #[.int .i64 vk, .int .i64 vn, .string vs]] _ _
  have hbox : ∀ W t, Ext (w.alloc (.cells #[.int .i64 vk, .int .i64 vn, .string vs] t)) W → W.cell? ⟨w.heap.size, 0, none⟩ = some (.int .i64 vk) ∧ W.cell? ⟨w.heap.size, 1, none⟩ = some (.int .i64 vn) ∧ W.cell? ⟨w.heap.size, 2, none⟩ = some (.string vs) := fun W t hx =>
    ⟨hx.cell ((World.cell?_alloc_mark _ _ _ _ 0).trans rfl), hx.cell ((World.cell?_alloc_mark _ _ _ _ 1).trans rfl), hx.cell ((World.cell?_alloc_mark _ _ _ _ 2).trans rfl)⟩
  have hb0 := fun t => (Ext.refl w).alloc (.cells #[.int .i64 vk, .int .i64 vn, .string vs] t)
  cases hf : fitsB l r with
  | false =>
    have HB := Lib.hid (show putF l r s (vk, vn, vs) = ([], 1) from by simp [putF, hf])
    simp only [hf] at hF
    rw [HB.out]
    go_enter Tryd.func41, Tryd.ntmps41
    go_wp2_with (go_at_call 23; refine (hF _ (hb0 _)).mono ?_; rintro e w1 ⟨rfl, hx1⟩)
    go_ret2
    exact ⟨⟨_, rfl, ResV.nil _⟩, (hb0 _).trans hx1⟩
  | true =>
    simp only [hf] at hF
    obtain ⟨hlr, hit⟩ := fits_len hf
    have hr : r.length ≤ 100000 := by have := items_le8 hit; omega
    have hq : Q = none → cap2 = 0 := by
      intro e
      obtain ⟨b, off, e2, _⟩ := h2.at_ 0 _ (nthV_some (by have := items_pos hit; omega))
      rw [e] at e2; cases e2
    clear hit
    by_cases hz : 0 ≤ idxF l s
    · obtain ⟨q, hq0, hql⟩ := idxF_lt hz
      have hI := fun W hx => rindexX_any P cap l s W (h.ext hx)
      simp only [hq0] at hI
      have hq3 : ¬ (q : Int) < 0 := by omega
      have hqr : (q : Int) < r.length := by omega
      have hql' : (q : Int) < l.length := by omega
      have hV := fun W => rvalue_any (vk, vn, vs) W
      unfold Vl.v at hV
      simp only at hV
      cases hv : valB (vk, vn, vs) with
      | false =>
        have HB := Lib.hid (show putF l r s (vk, vn, vs) = ([], 1) from by simp [putF, hf, hz, hv])
        simp only [hv] at hV
        rw [HB.out]
        clear hz hlr hf hv hq0
        go_enter Tryd.func41, Tryd.ntmps41
        go_wp2_with (first
          | (go_at_call 23; refine (hF _ (hb0 _)).mono ?_; rintro e w1 ⟨rfl, hx1⟩)
          | (go_at_call 72; refine (hI _ ((hb0 _).trans hx1)).mono ?_; rintro e w2 ⟨rfl, hx2⟩; obtain ⟨x0, x1, x2⟩ := hbox _ _ (hx1.trans hx2))
          | (go_at_call 13; refine (hV _).mono ?_; rintro e w3 ⟨rfl, hx3⟩))
        go_ret2
        exact ⟨⟨_, rfl, ResV.nil _⟩, (((hb0 _).trans hx1).trans hx2).trans hx3⟩
      | true =>
        simp only [hv] at hV
        obtain ⟨b, off, hP, g0, g1, g2, g3, g4⟩ := h.itemAt q hql
        subst hP
        have hT := fun W => rholds_any (nthT l q) (vk, vn, vs) W
        unfold It.v Vl.v at hT
        simp only at hT
        cases ht : fitB (nthT l q) (vk, vn, vs) with
        | false =>
          have HB := Lib.hid (show putF l r s (vk, vn, vs) = ([], 7) from by simp [putF, hf, hz, hv, hq0, ht])
          simp only [ht] at hT
          rw [HB.out]
          generalize nthT l q = x at *
          clear hz hlr hf hv hq0 ht
          go_enter Tryd.func41, Tryd.ntmps41
          go_wp2_with (first
            | (go_at_call 23; refine (hF _ (hb0 _)).mono ?_; rintro e w1 ⟨rfl, hx1⟩)
            | (go_at_call 72; refine (hI _ ((hb0 _).trans hx1)).mono ?_; rintro e w2 ⟨rfl, hx2⟩; obtain ⟨x0, x1, x2⟩ := hbox _ _ (hx1.trans hx2))
            | (go_at_call 13; refine (hV _).mono ?_; rintro e w3 ⟨rfl, hx3⟩; have hx03 := (((hb0 _).trans hx1).trans hx2).trans hx3; have x0 := hx3.cell x0; have x1 := hx3.cell x1; have x2 := hx3.cell x2; have g0 := hx03.cell g0; have g1 := hx03.cell g1; have g2 := hx03.cell g2; have g3 := hx03.cell g3; have g4 := hx03.cell g4))
          go_region_held3 (fun w' => w'.cell? ⟨b, off + q * 5, none⟩ = some (.string x.1) ∧ w'.cell? ⟨b, off + q * 5 + 1, none⟩ = some (.int .i64 x.2.1) ∧ w'.cell? ⟨b, off + q * 5 + 2, none⟩ = some (.int .i64 x.2.2.1) ∧ w'.cell? ⟨b, off + q * 5 + 3, none⟩ = some (.int .i64 x.2.2.2.1) ∧ w'.cell? ⟨b, off + q * 5 + 4, none⟩ = some (.int .i64 x.2.2.2.2) ∧ w'.cell? ⟨w.heap.size, 0, none⟩ = some (.int .i64 vk) ∧ w'.cell? ⟨w.heap.size, 1, none⟩ = some (.int .i64 vn) ∧ w'.cell? ⟨w.heap.size, 2, none⟩ = some (.string vs)) (go_keep)
            (first
              | (go_at_call 63; refine (hT _).mono ?_; rintro e w4 ⟨rfl, hx4⟩; have y0 := hx4.cell g0; have y1 := hx4.cell g1; have y2 := hx4.cell g2; have y3 := hx4.cell g3; have y4 := hx4.cell g4; have y5 := hx4.cell x0; have y6 := hx4.cell x1; have y7 := hx4.cell x2)
              | fail)
          go_wp2
          go_ret2
          exact ⟨⟨_, rfl, ResV.nil _⟩, hx03.drew.trans hx4⟩
        | true =>
          have HB := Lib.hid (show putF l r s (vk, vn, vs) = (r.set q (vk, vn, vs), 0) from by simp [putF, hf, hz, hv, hq0, ht])
          simp only [ht] at hT
          rw [HB.out]
          have hC := fun W hx => clonev_any Q cap2 r W (h2.ext hx) hr hq
          generalize nthT l q = x at *
          clear hz hlr hf hv hq0 ht
          go_enter Tryd.func41, Tryd.ntmps41
          go_wp2_with (first
            | (go_at_call 23; refine (hF _ (hb0 _)).mono ?_; rintro e w1 ⟨rfl, hx1⟩)
            | (go_at_call 72; refine (hI _ ((hb0 _).trans hx1)).mono ?_; rintro e w2 ⟨rfl, hx2⟩; obtain ⟨x0, x1, x2⟩ := hbox _ _ (hx1.trans hx2))
            | (go_at_call 13; refine (hV _).mono ?_; rintro e w3 ⟨rfl, hx3⟩; have hx03 := (((hb0 _).trans hx1).trans hx2).trans hx3; have x0 := hx3.cell x0; have x1 := hx3.cell x1; have x2 := hx3.cell x2; have g0 := hx03.cell g0; have g1 := hx03.cell g1; have g2 := hx03.cell g2; have g3 := hx03.cell g3; have g4 := hx03.cell g4))
          go_region_held3 (fun w' => w'.cell? ⟨b, off + q * 5, none⟩ = some (.string x.1) ∧ w'.cell? ⟨b, off + q * 5 + 1, none⟩ = some (.int .i64 x.2.1) ∧ w'.cell? ⟨b, off + q * 5 + 2, none⟩ = some (.int .i64 x.2.2.1) ∧ w'.cell? ⟨b, off + q * 5 + 3, none⟩ = some (.int .i64 x.2.2.2.1) ∧ w'.cell? ⟨b, off + q * 5 + 4, none⟩ = some (.int .i64 x.2.2.2.2) ∧ w'.cell? ⟨w.heap.size, 0, none⟩ = some (.int .i64 vk) ∧ w'.cell? ⟨w.heap.size, 1, none⟩ = some (.int .i64 vn) ∧ w'.cell? ⟨w.heap.size, 2, none⟩ = some (.string vs)) (go_keep)
            (first
              | (go_at_call 63; refine (hT _).mono ?_; rintro e w4 ⟨rfl, hx4⟩; have y0 := hx4.cell g0; have y1 := hx4.cell g1; have y2 := hx4.cell g2; have y3 := hx4.cell g3; have y4 := hx4.cell g4; have y5 := hx4.cell x0; have y6 := hx4.cell x1; have y7 := hx4.cell x2)
              | fail)
          have hx04 := hx03.drew.trans hx4
          go_wp2_with (at_builtin; refine wpList_app_G _ elemV rfl _ _ rfl (base := w4.heap.size) (l := []) rfl (OwnG.lit0 (Nat.le_refl _)) rfl (h2.ext (hx04.alloc _)) (by intro e; rw [e] at hq; exact hq rfl) (by simp; omega) (by simp; omega) (by simp) ?_)
          intro u w5 hown hbl
          have hx5 := below_ext ((Ext.refl w4).alloc _) hbl (Nat.le_refl _)
          have z0 := hx5.cell y5
          have z1 := hx5.cell y6
          have z2 := hx5.cell y7
          obtain ⟨g, c5, rfl, hg1, hg2, hg3, hg4⟩ := hown.tight (by omega)
          have m0 := hown.cell elemV.hk rfl q _ (nthV_some (by omega)) 0 _ rfl
          have m1 := hown.cell elemV.hk rfl q _ (nthV_some (by omega)) 1 _ rfl
          have m2 := hown.cell elemV.hk rfl q _ (nthV_some (by omega)) 2 _ rfl
          have n0 := hown.frozen rfl (q * 3)
          have n1 := hown.frozen rfl (q * 3 + 1)
          have n2 := hown.frozen rfl (q * 3 + 2)
          simp only [Nat.add_zero] at m0
          generalize nthV r q = y at m0 m1 m2
          clear hF hI hV hT hC
          go_wp2
          go_ret2
          refine ⟨⟨.slice (some ⟨g, 0, none⟩) r.length c5, rfl, ?_⟩, (((hx04.trans hx5).setCell (by have := hx04.size; simp; omega) _).setCell (by have := hx04.size; simp; omega) _).setCell (by have := hx04.size; simp; omega) _⟩
          have hs := hown.setV rfl q (by omega) (vk, vn, vs)
          rw [show r.length = (r.set q (vk, vn, vs)).length from by simp] at hs
          exact ⟨_, _, by rw [show (r.set q (vk, vn, vs)).length = r.length from by simp], (OwnG.slG elemV hs (by simp; omega)).elim fun P9 ⟨c9, e9, s9⟩ => by cases e9; exact s9⟩
    · have HB := Lib.hid (show putF l r s (vk, vn, vs) = ([], 5) from by simp [putF, hf, hz])
      have hI := fun W hx => rindexX_any P cap l s W (h.ext hx)
      have hz1 : idxF l s < 0 := by omega
      rw [HB.out]
      generalize idxF l s = z at *
      clear hz hlr hf
      go_enter Tryd.func41, Tryd.ntmps41
      go_wp2_with (first
        | (go_at_call 23; refine (hF _ (hb0 _)).mono ?_; rintro e w1 ⟨rfl, hx1⟩)
        | (go_at_call 72; refine (hI _ ((hb0 _).trans hx1)).mono ?_; rintro e w2 ⟨rfl, hx2⟩))
      go_ret2
      exact ⟨⟨_, rfl, ResV.nil _⟩, ((hb0 _).trans hx1).trans hx2⟩
end
end Go.Proofs.YtepgpejdnlejnaaDoor
