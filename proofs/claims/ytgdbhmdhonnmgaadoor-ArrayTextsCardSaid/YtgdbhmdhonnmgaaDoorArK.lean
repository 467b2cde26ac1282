/- Arrays: insert; Make. -/
import Derived.Test.YtgdbhmdhonnmgaaDoorArJ
namespace Go.Proofs.YtgdbhmdhonnmgaaDoor
open Go.RowKit Go.Maps
set_option linter.unusedVariables false
set_option maxRecDepth 20000
set_option linter.unusedSimpArgs false
set_option maxRecDepth 20000
attribute [local go_sem] Oper.semAt_some

theorem insert_nil (b : Int) (base : Nat) (P : Option Addr) (cap : Nat) (k : Int) (w : World) (hbase : base ≤ w.heap.size) :
    Calls Tryd.prog 26 #[.int .i64 b, .slice P 0 cap, .int .i64 0, .int .i64 k] w (InsPost b base [] 0 k w) := by
  obtain ⟨W1, hW1⟩ : ∃ W1, w.alloc (.cells #[.int .i64 0] 3) = W1 := ⟨_, rfl⟩
  have hx1 : Ext w W1 := by rw [← hW1]; exact (Ext.refl w).alloc _
  obtain ⟨W2, hW2⟩ : ∃ W2, W1.alloc (.cells #[.int .i64 k] 3) = W2 := ⟨_, rfl⟩
  have hx2 : Ext W1 W2 := by rw [← hW2]; exact (Ext.refl W1).alloc _
  obtain ⟨W3, hW3⟩ : ∃ W3, W2.alloc (.cells #[.slice (some ⟨W1.heap.size, 0, none⟩) 1 1] 31) = W3 := ⟨_, rfl⟩
  have hx3 : Ext W2 W3 := by rw [← hW3]; exact (Ext.refl W2).alloc _
  have hz2 : W2.heap.size = W1.heap.size + 1 := by rw [← hW2, World.size_alloc]
  have b1 : Boxed W2 W1.heap.size 3 (.int .i64 k) := by rw [← hW2]; exact Boxed.new _ _ _
  have b2 : Boxed W3 W2.heap.size 31 (.slice (some ⟨W1.heap.size, 0, none⟩) 1 1) := by rw [← hW3]; exact Boxed.new _ _ _
  have hT : TightB W3 base ⟨W1.heap.size, 1, [k]⟩ := by
    refine ⟨by simp [intVs], .inr ⟨W1.heap.size, 1, #[.int .i64 k], rfl, by have := hx1.size; omega, hx3.heap b1, by simp, by simp [maxLen], by simp, by simp [intVs]⟩⟩
  have hO : OwnA W3 base (.slice (some ⟨W2.heap.size, 0, none⟩) 1 1) [⟨W1.heap.size, 1, [k]⟩] := by
    refine ⟨⟨by simp, .inr ⟨W2.heap.size, 1, #[.slice (some ⟨W1.heap.size, 0, none⟩) 1 1], rfl, by have := hx1.size; omega, b2, by simp, by simp [maxLen], by simp, by simp [Row.v]⟩⟩, fun r hr => ?_, by simp, fun r hr => ?_⟩
    · simp at hr; subst hr; exact hT.inB
    · simp at hr; subst hr; simp [Value.ownBlock]; omega
  have hB : Below base w W3 := Below.mono (hx1.trans (hx2.trans hx3)) hbase
  have Hall : Hid (OwnA W3 base (.slice (some ⟨W2.heap.size, 0, none⟩) 1 1) [⟨W1.heap.size, 1, [k]⟩] ∧ TightB W3 base ⟨W1.heap.size, 1, [k]⟩ ∧ Below base w W3 ∧ w.alloc (.cells #[.int .i64 0] 3) = W1 ∧ W1.alloc (.cells #[.int .i64 k] 3) = W2 ∧ W2.alloc (.cells #[.slice (some ⟨W1.heap.size, 0, none⟩) 1 1] 31) = W3) := Lib.hid ⟨hO, hT, hB, hW1, hW2, hW3⟩
  clear hW1 hx1 hW2 hx2 hW3 hx3 hz2 b1 b2 hT hO hB
  go_enter Tryd.func26, Tryd.ntmps26
  go_wp2
  obtain ⟨hO, hT, hB, hW1, hW2, hW3⟩ := Hall.out
  subst hW1 hW2 hW3
  simp only [World.size_alloc] at hO hT hB
  go_ret
  exact ⟨_, _, rfl, hO, rfl, hB, fun _ => ⟨[], _, rfl, hT⟩⟩

/-- insert, of whatever array -/
theorem insert_any (b : Int) (hb : roomB b = true) (base : Nat) (v : Value) (RR : List Row) (index : Nat) (k : Int) (w : World) (hown : OwnA w base v RR) (hbase : base ≤ w.heap.size) (hi : index ≤ (RR.map Row.l).flatten.length)
    (hblk : BlocksOk b (RR.map Row.l)) (ht : (RR.map Row.l).flatten.length ≤ 600) (hT : RR ≠ [] → TightB w base (nthR RR (spotF (RR.map Row.l) index).1)) :
    Calls Tryd.prog 26 #[.int .i64 b, v, .int .i64 index, .int .i64 k] w (InsPost b base RR index k w) := by
  rcases hown.cases with ⟨rfl, rfl⟩ | ⟨g, cap, rfl, _, _, _⟩
  · simp at hi
    subst hi
    exact insert_nil b base _ _ k w hbase
  · by_cases h0 : RR = []
    · subst h0
      simp at hi
      subst hi
      exact insert_nil b base _ _ k w hbase
    · exact insert_at b hb base g cap RR index k w hown hbase hi (fun l hl => (hblk l hl).1) ht h0 _ _ rfl hblk (hT h0)

/-- how Make ends -/
def makeE (b : Int) (l : List Int) : Int := if (∀ x ∈ l, keyB x = true) ∧ l.Nodup ∧ roomB b = true then 0 else 1
def makeL (b : Int) (l : List Int) : List (List Int) := if (∀ x ∈ l, keyB x = true) ∧ l.Nodup ∧ roomB b = true then makeF b l l.length else []
theorem makeE_yes {b : Int} {l : List Int} (h : KeysOk l) (hb : roomB b = true) : makeE b l = 0 ∧ makeL b l = makeF b l l.length := by
  unfold makeE makeL
  exact ⟨if_pos ⟨h.1, h.2.1, hb⟩, if_pos ⟨h.1, h.2.1, hb⟩⟩
theorem makeE_no {b : Int} {l : List Int} (h : ¬ (KeysOk l ∧ roomB b = true)) (hl : l.length ≤ 500) : makeE b l = 1 ∧ makeL b l = [] := by
  have : ¬ ((∀ x ∈ l, keyB x = true) ∧ l.Nodup ∧ roomB b = true) := fun h' => h ⟨⟨h'.1, h'.2.1, hl⟩, h'.2.2⟩
  unfold makeE makeL
  exact ⟨if_neg this, if_neg this⟩
def MakePost (b : Int) (l : List Int) (w : World) (e : Ending) (w' : World) : Prop :=
  ∃ v RR, e = .returned (.tuple #[v, .int .i64 (makeE b l)]) ∧ OwnA w' w.heap.size v RR ∧ RR.map Row.l = makeL b l ∧ Ext w w'
theorem makePost_no {b : Int} {l : List Int} {w w' : World} {e : Ending} (h : makeE b l = 1 ∧ makeL b l = []) (he : e = .returned (.tuple #[.slice none 0 0, .int .i64 1])) (hx : Ext w w') : MakePost b l w e w' :=
  ⟨_, [], by rw [h.1]; exact he, OwnA.nil _ _, by rw [h.2]; rfl, hx⟩
/-- the array of the keys so far -/
def MakeR (b : Int) (l : List Int) (w : World) (i v : Value) (wr : World) : Prop :=
  ∃ k RR, k ≤ l.length ∧ i = .int .i64 (k : Nat) ∧ OwnA wr w.heap.size v RR ∧ RR.map Row.l = makeF b l k ∧ Ext w wr ∧ (RR ≠ [] → ∃ RR0 r, RR = RR0 ++ [r] ∧ TightB wr w.heap.size r)
theorem nthR_last (A : List Row) (r : Row) : nthR (A ++ [r]) ((A ++ [r]).length - 1) = r := by
  simp [nthR, List.getD_eq_getElem?_getD]

set_option maxHeartbeats 4000000 in
theorem make_any (b : Int) (P : Option Addr) (cap : Nat) (l : List Int) (w : World) (h : SlI w P cap l) (hv : ∀ x ∈ l, In64 x) (hl : l.length ≤ 500) :
    Calls Tryd.prog 11 #[.int .i64 b, .slice P l.length cap] w (MakePost b l w) := by
  have hM0 : MetI (w.alloc (.map #[] 0)) w.heap.size [] := MetG.made w
  have hx0 := (Ext.refl w).alloc (.map #[] 0)
  have hmm := @run_makeMap Tryd.prog
  go_enter Tryd.func11, Tryd.ntmps11
  go_wp2
  clear hmm
  go_loopw [15] (fun i wr => ∃ k : Nat, k ≤ l.length ∧ i = .int .i64 k ∧ MetI wr w.heap.size (l.take k) ∧ KeysOk (l.take k) ∧ Ext w wr) (fun i _ => l.length - (intOf i).toNat)
  case atStart => exact ⟨0, by omega, rfl, hM0, KeysOk.nil, hx0⟩
  case round =>
    obtain ⟨k, hk, rfl, hM, hK, hx⟩ := hrel
    by_cases hlt : k < l.length
    · obtain ⟨bb, off, hP, hc⟩ := h.at_ k hlt
      have hc := hx.cell hc
      subst hP
      have c1 : (k : Int) < l.length := by omega
      have hin := hv _ (nthI_mem hlt)
      have hmem := nthI_mem hlt
      have Hs := Lib.hid (nthI_take hlt)
      have hkey : keyOf Tryd.prog 3 (.int .i64 (nthI l k)) = some (.int .i64 (nthI l k)) := keyOf_int_mk Tryd.underlying3 hin.wf
      generalize nthI l k = x at *
      cases hkx : keyB x with
      | false =>
        have Hno := Lib.hid (makeE_no (b := b) (l := l) (fun hh => by have := hh.1.1 x hmem; rw [hkx] at this; cases this) hl)
        clear hkey hM hM0 hK Hs
        go_wp2_with (go_at_call 24; refine (akey_any _ _).mono ?_; rintro e w1 ⟨rfl, rfl⟩; rw [hkx])
        go_ret2
        exact makePost_no Hno.out rfl hx
      | true =>
        by_cases hmx : x ∈ l.take k
        · have Hno := Lib.hid (makeE_no (b := b) (l := l) (fun hh => by
            have hn := hh.1.2.1
            have h1 := (List.take_append_drop (k + 1) l)
            rw [Hs.out] at h1
            rw [← h1, List.nodup_append, List.nodup_append] at hn
            exact hn.1.2.2 x hmx x (by simp) rfl) hl)
          have hlk := MetG.look hM keyedI Tryd.underlying50 Tryd.underlying4 (zeroB wr) hkey
          rw [decide_eq_true hmx] at hlk
          clear hM hM0 hK Hs
          go_wp2_with (go_at_call 24; refine (akey_any _ _).mono ?_; rintro e w1 ⟨rfl, rfl⟩; rw [hkx])
          go_ret2
          exact makePost_no Hno.out rfl hx
        · have hlk := MetG.look hM keyedI Tryd.underlying50 Tryd.underlying4 (zeroB wr) hkey
          rw [decide_eq_false hmx] at hlk
          have hll : (l.take k).length ≤ 500 := hK.2.2
          have hKn := hK.snoc hkx hmx (by rw [List.length_take]; omega)
          rw [← Hs.out] at hKn
          clear hM0 hK
          go_wp2_with (first
            | (go_at_call 24; refine (akey_any _ _).mono ?_; rintro e w1 ⟨rfl, rfl⟩; rw [hkx])
            | (at_mapUpdate; refine wpList_store_met rfl _ _ _ 50 rfl hM keyedI Tryd.underlying50 Tryd.underlying4 (by omega) int_inj rfl _ x rfl rfl trivial hkey ?_; intro w2 hM2 hg2; rw [← Hs.out] at hM2))
          go_roundw
          case rel => exact ⟨k + 1, by omega, by go_num, hM2, hKn, Below.grown hx hg2 hx.size (fun j hj => by injection hj with hj; omega)⟩
          case measure => simp [intOf]; omega
    · obtain rfl : k = l.length := by omega
      rw [List.take_length] at hM hK
      clear hM0 hM hx0
      cases hb : roomB b with
      | false =>
        have Hno := Lib.hid (makeE_no (b := b) (l := l) (fun hh => by have := hh.2; rw [hb] at this; cases this) hl)
        go_wp2_with (go_at_call 25; refine (aroom_any _ _).mono ?_; rintro e w1 ⟨rfl, rfl⟩; rw [hb])
        go_ret2
        exact makePost_no Hno.out rfl hx
      | true =>
        have Hyes := Lib.hid (makeE_yes hK hb)
        have c2 : ¬ (500 : Int) < l.length := by omega
        go_wp2_with (go_at_call 25; refine (aroom_any _ _).mono ?_; rintro e w1 ⟨rfl, rfl⟩; rw [hb])
        go_loopw [40, 9] (fun i v wr => MakeR b l w i v wr) (fun i _ _ => l.length - (intOf i).toNat)
        case atStart => exact ⟨0, [], by omega, rfl, OwnA.nil _ _, rfl, hx, fun h => absurd rfl h⟩
        case round =>
          clear hx
          obtain ⟨k, RR, hk, rfl, hO, hRR, hx, hT⟩ := hrel
          by_cases hlt : k < l.length
          · obtain ⟨bb, off, hP, hc⟩ := h.at_ k hlt
            have hc := hx.cell hc
            subst hP
            have c1 : (k : Int) < l.length := by omega
            have hfl : (RR.map Row.l).flatten.length = k := by rw [hRR]; exact makeF_len b l k (by omega)
            have hins := insert_any b hb w.heap.size _ RR k (nthI l k) wr hO hx.size (by omega) (by rw [hRR]; exact makeF_ok b l hb k (by omega)) (by omega) (fun h0 => by
              obtain ⟨RR0, r, e, hTr⟩ := hT h0
              have e2 := spotF_end (RR.map Row.l)
              rw [hfl] at e2
              rw [e2, List.length_map, e, nthR_last]
              exact hTr)
            have Hf := Lib.hid hfl
            have Hs := Lib.hid (show insF b (RR.map Row.l) k (nthI l k) = makeF b l (k + 1) by rw [hRR]; rfl)
            clear hfl hRR hT hO
            go_wp2_with (go_at_call 26; refine hins.mono ?_; rintro e w2 ⟨v2, RR2, rfl, hO2, hm2, hb2, hT2⟩)
            go_roundw
            case rel => exact ⟨k + 1, RR2, by omega, by go_num, hO2, hm2.trans Hs.out, Below.trans hx (Below.mono hb2 (Nat.le_refl _)), fun _ => hT2 Hf.out.symm⟩
            case measure => simp [intOf]; omega
          · obtain rfl : k = l.length := by omega
            go_wp2
            go_ret2
            exact ⟨_, RR, by rw [Hyes.out.1]; rfl, hO, by rw [Hyes.out.2]; exact hRR, hx⟩
end Go.Proofs.YtgdbhmdhonnmgaaDoor
