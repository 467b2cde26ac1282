/- Arrays, the reference: Make. -/
import Derived.Test.YtiakmcfbkceojaaArR2
import Derived.Test.YtiakmcfbkceojaaArL
namespace Go.Proofs.Ytiakmcfbkceojaa
open Go.RowKit Go.Maps
set_option linter.unusedVariables false
set_option linter.unusedSimpArgs false
set_option maxRecDepth 20000

theorem idx_before {l : List Int} {k : Nat} (h : k < l.length) : (nthI l k ∈ l.take k → idxFrom (nthI l k) 0 l < k) ∧ (nthI l k ∉ l.take k → idxFrom (nthI l k) 0 l = k) := by
  have hm : ∀ j, j < k → nthI l j ∈ l.take k := fun j hj => by
    have h1 : j < (l.take k).length := by rw [List.length_take]; omega
    have h2 : nthI (l.take k) j = nthI l j := by simp [nthI, List.getD_eq_getElem?_getD, hj]
    rw [← h2]; exact nthI_mem h1
  rcases idxFrom_range (nthI l k) l 0 with ⟨_, h2⟩ | ⟨i, h1, h2, h3, h4⟩
  · exact absurd (nthI_mem h) h2
  · rw [h4]
    refine ⟨fun hin => ?_, fun hno => ?_⟩
    · obtain ⟨j, hj, e⟩ := mem_nthI hin
      rw [List.length_take] at hj
      have h5 : nthI (l.take k) j = nthI l j := by simp [nthI, List.getD_eq_getElem?_getD, show j < k by omega]
      rw [h5] at e
      have : ¬ j < i := fun hji => h3 j hji e
      omega
    · have h5 : ¬ i < k := fun hik => hno (h2 ▸ hm i hik)
      have h6 : ¬ k < i := fun hki => h3 k hki rfl
      omega

theorem In64.key {x : Int} (h : keyB x = true) : In64 x := by have := keyB_t h; unfold In64; omega
theorem ArOk.in64 {b : Int} {LL : List (List Int)} (h : ArOk b LL) : ∀ l ∈ LL, ∀ x ∈ l, In64 x := fun l hl x hx => In64.key (h.keys.1 x (List.mem_flatten.2 ⟨l, hl, hx⟩))
/-- the array of the keys so far, of the reference -/
def RMakeR (b : Int) (l : List Int) (w : World) (i v : Value) (wr : World) : Prop :=
  ∃ (k : Nat) (RR : List Row), k ≤ l.length ∧ i = .int .i64 k ∧ OwnA wr w.heap.size v RR ∧ RR.map Row.l = makeF b l k ∧ Ext w wr

set_option maxHeartbeats 4000000 in
theorem rmake_any (b : Int) (P : Option Addr) (cap : Nat) (l : List Int) (w : World) (h : SlI w P cap l) (hl : l.length ≤ 500) :
    Calls Try.prog 11 #[.int .i64 b, .slice P l.length cap] w (MakePost b l w) := by
  have hix := fun x => index_any P cap l x w h
  cases hb : roomB b with
  | false =>
    have Hno := Lib.hid (makeE_no (b := b) (l := l) (fun hh => by have := hh.2; rw [hb] at this; cases this) hl)
    go_enter Try.func11, Try.ntmps11
    go_wp2_with (go_at_call 42; refine (rsize_any _ _).mono ?_; rintro e w1 ⟨rfl, rfl⟩; rw [hb])
    go_ret2
    exact makePost_no Hno.out rfl (Ext.refl w)
  | true =>
    go_enter Try.func11, Try.ntmps11
    go_wp2_with (go_at_call 42; refine (rsize_any _ _).mono ?_; rintro e w1 ⟨rfl, rfl⟩; rw [hb])
    go_loop [6] (fun i => ∃ k : Nat, k ≤ l.length ∧ i = .int .i64 k ∧ KeysOk (l.take k)) (fun i => l.length - (intOf i).toNat)
    case atStart => exact ⟨0, by omega, rfl, KeysOk.nil⟩
    case round =>
      obtain ⟨k, hk, rfl, hK⟩ := hrel
      by_cases hlt : k < l.length
      · obtain ⟨bb, off, hP, hc⟩ := h.at_ k hlt
        subst hP
        have c1 : (k : Int) < l.length := by omega
        have hmem := nthI_mem hlt
        have Hs := Lib.hid (nthI_take hlt)
        obtain ⟨hi1, hi2⟩ := idx_before hlt
        generalize nthI l k = x at *
        cases hkx : keyB x with
        | false =>
          have Hno := Lib.hid (makeE_no (b := b) (l := l) (fun hh => by have := hh.1.1 x hmem; rw [hkx] at this; cases this) hl)
          clear hi1 hi2 hK
          go_wp2_with (go_at_call 43; refine (rkey_any _ _).mono ?_; rintro e w1 ⟨rfl, rfl⟩; rw [hkx])
          go_ret2
          exact makePost_no Hno.out rfl (Ext.refl w)
        | true =>
          by_cases hmx : x ∈ l.take k
          · have Hno := Lib.hid (makeE_no (b := b) (l := l) (fun hh => by
              have hn := hh.1.2.1
              have h1 := (List.take_append_drop (k + 1) l)
              rw [Hs.out] at h1
              rw [← h1, List.nodup_append, List.nodup_append] at hn
              exact hn.1.2.2 x hmx x (by simp) rfl) hl)
            have hi := hi1 hmx
            clear hi1 hi2 hK
            have hI := hix x
            generalize idxFrom x 0 l = r at *
            go_wp2_with (first
              | (go_at_call 43; refine (rkey_any _ _).mono ?_; rintro e w1 ⟨rfl, rfl⟩; rw [hkx])
              | (go_at_call 44; refine hI.mono ?_; rintro e w1 ⟨rfl, rfl⟩))
            go_ret2
            exact makePost_no Hno.out rfl (Ext.refl w)
          · have hi := hi2 hmx
            have hKn := hK.snoc hkx hmx (by rw [List.length_take]; omega)
            rw [← Hs.out] at hKn
            have hI := hix x
            rw [hi] at hI
            clear hi1 hi2 hK hi
            go_wp2_with (first
              | (go_at_call 43; refine (rkey_any _ _).mono ?_; rintro e w1 ⟨rfl, rfl⟩; rw [hkx])
              | (go_at_call 44; refine hI.mono ?_; rintro e w1 ⟨rfl, rfl⟩))
            go_round
            case rel => exact ⟨k + 1, by omega, by go_num, hKn⟩
            case measure => simp [intOf]; omega
      · obtain rfl : k = l.length := by omega
        rw [List.take_length] at hK
        have Hyes := Lib.hid (makeE_yes hK hb)
        have c2 : ¬ (500 : Int) < l.length := by omega
        clear hix
        go_wp2
        go_loopw [8, 7] (fun i v wr => RMakeR b l w i v wr) (fun i _ _ => l.length - (intOf i).toNat)
        case atStart => exact ⟨0, [], by omega, rfl, OwnA.nil _ _, rfl, Ext.refl w⟩
        case round =>
          obtain ⟨k, RR, hk, rfl, hO, hRR, hx⟩ := hrel
          by_cases hlt : k < l.length
          · obtain ⟨bb, off, hP, hc⟩ := h.at_ k hlt
            have hc := hx.cell hc
            subst hP
            have c1 : (k : Int) < l.length := by omega
            have hfl : (RR.map Row.l).flatten.length = k := by rw [hRR]; exact makeF_len b l k (by omega)
            obtain ⟨P2, cap2, Q2, C2, hv2, hA⟩ := hO.read
            have hput := rput_any b hb P2 cap2 Q2 C2 (RR.map Row.l) k (nthI l k) wr hA (by rw [hRR]; exact makeF_ok b l hb k (by omega)) (by omega) (by omega)
            rw [← hv2] at hput
            have Hs := Lib.hid (show insF b (RR.map Row.l) k (nthI l k) = makeF b l (k + 1) by rw [hRR]; rfl)
            clear hfl hRR hO hA hv2
            go_wp2_with (go_at_call 45; refine hput.mono ?_; rintro e w2 ⟨v2, RR2, rfl, hO2, hm2, hx2⟩)
            go_roundw
            case rel => exact ⟨k + 1, RR2, by omega, by go_num, hO2.down hx.size, hm2.trans Hs.out, hx.trans hx2⟩
            case measure => simp [intOf]; omega
          · obtain rfl : k = l.length := by omega
            go_wp2
            go_ret2
            exact ⟨_, RR, by rw [Hyes.out.1]; rfl, hO, by rw [Hyes.out.2]; exact hRR, hx⟩
end Go.Proofs.Ytiakmcfbkceojaa
