/- Rings: light; the law of ChainMakes. -/
import Derived.Test.YthmcdlieglollaaChT
namespace Go.Proofs.Ythmcdlieglollaa
open Go.RowKit Go.Sort Go.Maps
set_option linter.unusedVariables false
set_option linter.unusedSimpArgs false
set_option linter.unusedSectionVars false
set_option maxRecDepth 20000
attribute [local go_sem] Oper.semAt_some

theorem light_one (b : Nat) (P : Option Addr) (n cap : Nat) (w : World) (hn : n ≤ 9223372036854775807) (hc : w.cell? ⟨b, 0, none⟩ = some (.slice P n cap)) :
    Calls Try.prog 9 #[.slice (some ⟨b, 0, none⟩) 1 1] w fun e w' => e = .returned (.bool (decide (n ≤ 120))) ∧ w' = w := by
  go_enter Try.func9, Try.ntmps9
  go_wp2
  go_loopw [3] (fun i wr => ∃ q : Nat, q ≤ 1 ∧ i = .int .i64 q ∧ (0 < q → n ≤ 120) ∧ wr = w) (fun i _ => 1 - (intOf i).toNat)
  case atStart => exact ⟨0, by omega, rfl, by omega, rfl⟩
  case round =>
    obtain ⟨q, hk, rfl, hq, rfl⟩ := hrel
    by_cases hlt : q = 0
    · subst hlt
      by_cases h : n ≤ 120
      · have c1 : ¬ (120 : Int) < n := by omega
        have c2 : decide (120 < n) = false := by simp; omega
        have HH := Lib.hid h
        clear h
        go_wp2
        go_roundw
        case rel => exact ⟨1, by omega, by go_num, fun _ => HH.out, by trivial⟩
        case measure => simp [intOf]
      · have c1 : (120 : Int) < n := by omega
        have c2 : decide (120 < n) = true := by simp; omega
        have HH := Lib.hid (decide_eq_false h)
        clear h
        go_wp2
        go_ret
        exact ⟨by rw [HH.out]; rfl, by trivial⟩
    · obtain rfl : q = 1 := by omega
      have HH := Lib.hid (decide_eq_true (hq (by omega)))
      clear hq
      go_wp2
      go_ret
      exact ⟨by rw [HH.out]; rfl, by trivial⟩
theorem okI_nth {R : List Int} (h : ∀ x ∈ R, keyB x = true) (i : Nat) : OkI (nthI R i) := by
  rcases Nat.lt_or_ge i R.length with hi | hi
  · have := h _ (nthI_mem hi)
    simp [keyB] at this
    unfold OkI
    omega
  · have : nthI R i = 0 := by simp [nthI, List.getD_eq_getElem?_getD, hi]
    rw [this]
    unfold OkI
    omega
theorem built_okK {o : Int} {ms : List Int} (h : Right (o :: ms)) : ∀ x ∈ builtF o ms, OkK x := by
  intro x hx
  obtain ⟨k, hk, rfl⟩ := List.mem_map.1 hx
  have hkR := sortI_mem.1 hk
  have h1 : OkI k := by
    have := h.keys k hkR
    simp [keyB] at this
    unfold OkI
    omega
  have h2 : OkI o := okI_nth h.keys 0
  exact ⟨h1, okI_nth h.keys _, okI_nth h.keys _, h2⟩
set_option maxHeartbeats 4000000 in
theorem chainMakes_any (o : Int) (P : Option Addr) (cap : Nat) (ms : List Int) (w : World) (h : SlI w P cap ms) (hP : P = none → cap = 0) (ho : OkI o) :
    Calls Try.prog 4 #[.int .i64 o, .slice P ms.length cap] w fun e w' => e = .returned (.bool true) ∧ Ext w w' := by
  have hlen := h.len
  have hxl : Ext w (w.alloc (.cells #[.slice P ms.length cap] 22)) := (Ext.refl w).alloc _
  have hL := light_one w.heap.size P ms.length cap (w.alloc (.cells #[.slice P ms.length cap] 22)) hlen ((World.cell?_alloc_mark _ _ _ _ 0).trans rfl)
  by_cases hl : ms.length ≤ 120
  · rw [decide_eq_true hl] at hL
    have hm1 := fun W hW => make_any P cap o ms W hW hP (by omega) ho
    have hm2 := fun W hW => rmake_any P cap o ms W hW hP (by omega)
    rcases make_cases o ms with ⟨_, he, hr⟩ | ⟨_, h5, _⟩ | ⟨_, _, he, hr, hrr⟩
    · have hm1 := fun W hW => (hm1 W hW)
      unfold MakeP at hm1
      rw [he, hr] at hm1 hm2
      clear he hr
      go_enter Try.func4, Try.ntmps4
      go_wp2_with (first
        | (go_at_call 9; refine hL.mono ?_; rintro e w1 ⟨rfl, rfl⟩; have h1 := h.ext hxl)
        | (go_at_call 15; refine (hm1 _ h1).mono ?_; rintro e w2 ⟨⟨v, rfl, P2, c2, rfl, s2, _⟩, hx2⟩; have h2 := h1.ext hx2)
        | (go_at_call 11; refine (hm2 _ h2).mono ?_; rintro e w3 ⟨⟨v3, rfl, P3, c3, rfl, s3, _⟩, hx3⟩; have s2 := s2.ext hx3)
        | (go_at_call 16; have hsm := samelinks_yes _ _ _ _ _ _ s2 s3; refine hsm.mono ?_; clear hsm; rintro e w4 ⟨rfl, hx4⟩)
        | (go_at_call 10; refine (awake_any _).mono ?_; rintro e w5 ⟨rfl, hx5⟩))
      go_ret
      exact ⟨rfl, hxl.trans (hx2.trans (hx3.trans (hx4.trans hx5)))⟩
    · omega
    · have ok := built_okK hrr
      have hvb := validB_built hrr
      have hO1 := fun P2 c2 W hs => owner_any P2 c2 (builtF o ms) W hs ok
      have hM1 := fun P2 c2 W hs => membersM_any P2 c2 (builtF o ms) W hs ok
      have hB1 := fun P2 c2 W hs => back_M P2 c2 (builtF o ms) W hs ok
      have hC1 := fun P2 c2 W hs => count_any P2 c2 (builtF o ms) W hs ok
      have hV1 := fun P2 c2 W hs => valid_any P2 c2 (builtF o ms) W hs ok
      rw [show ownF' (builtF o ms) = o from by simp [ownF', hvb, built_own]] at hO1
      rw [show errF (builtF o ms) = 0 from by simp [errF, hvb]] at hO1 hM1 hB1 hC1
      rw [memF_built hrr] at hM1 hB1 hC1
      rw [hvb] at hV1
      unfold MakeP at hm1
      rw [he, hr] at hm1 hm2
      have HRV := Lib.hid (show ∀ i, i < ms.length → nthI ms.reverse (ms.length - 1 - i) = nthI ms i from fun i hi => by
        rw [nthI_get (by simp; omega), nthI_get hi, List.getElem_reverse]
        congr 1
        omega)
      have HRL := Lib.hid (show ms.reverse.length = ms.length from List.length_reverse)
      clear he hr hrr hvb ok
      generalize builtF o ms = L at *
      generalize ms.reverse = mr at *
      go_enter Try.func4, Try.ntmps4
      go_wp2_with (first
        | (go_at_call 9; refine hL.mono ?_; rintro e w1 ⟨rfl, rfl⟩; have h1 := h.ext hxl)
        | (go_at_call 15; refine (hm1 _ h1).mono ?_; rintro e w2 ⟨⟨v, rfl, P2, c2, rfl, s2, _⟩, hx2⟩; have h2 := h1.ext hx2)
        | (go_at_call 11; refine (hm2 _ h2).mono ?_; rintro e w3 ⟨⟨v3, rfl, P3, c3, rfl, s3, _⟩, hx3⟩; have s2 := s2.ext hx3; have h3 := h2.ext hx3)
        | (go_at_call 16; have hsm := samelinks_yes _ _ _ _ _ _ s2 s3; refine hsm.mono ?_; clear hsm; rintro e w4 ⟨rfl, hx4⟩; have q4 := s2.ext hx4; have h4 := h3.ext hx4)
        | (go_at_call 17; refine (hO1 _ _ _ q4).mono ?_; rintro e w5 ⟨rfl, hx5⟩; have q5 := q4.ext hx5; have h5 := h4.ext hx5)
        | (go_at_call 18; refine (hM1 _ _ _ q5).mono ?_; rintro e w6 ⟨⟨v6, rfl, P6, c6, rfl, s6, _⟩, hx6⟩; have q6 := q5.ext hx6; have h6 := h5.ext hx6)
        | (go_at_call 19; refine (hB1 _ _ _ q6).mono ?_; rintro e w7 ⟨⟨v7, rfl, P7, c7, rfl, s7, _⟩, hx7⟩; have q7 := q6.ext hx7; have h7 := h6.ext hx7; have s6 := s6.ext hx7; rw [HRL.out])
        | (go_at_call 20; refine (hC1 _ _ _ q7).mono ?_; rintro e w8 ⟨rfl, hx8⟩; have q8 := q7.ext hx8; have h8 := h7.ext hx8; have s6 := s6.ext hx8; have s7 := s7.ext hx8)
        | (go_at_call 21; have hsm := same_yes _ _ _ _ ms _ s6 h8; refine hsm.mono ?_; clear hsm; rintro e w9 ⟨rfl, hx9⟩; have q9 := q8.ext hx9; have s6 := s6.ext hx9; have s7 := s7.ext hx9))
      have hxA := hxl.trans (hx2.trans (hx3.trans (hx4.trans (hx5.trans (hx6.trans (hx7.trans (hx8.trans hx9)))))))
      clear hm1 hm2 hO1 hM1 hB1 hC1 hL
      go_loopw [15] (fun i wr => ∃ q : Nat, q ≤ ms.length ∧ i = .int .i64 q ∧ Ext w9 wr) (fun i _ => ms.length - (intOf i).toNat)
      case atStart => exact ⟨0, by omega, rfl, Ext.refl _⟩
      case round =>
        obtain ⟨q, hk, rfl, hx⟩ := hrel
        by_cases hlt : q < ms.length
        · obtain ⟨b6, of6, hP6, k6⟩ := (s6.ext hx).intAt q hlt
          obtain ⟨b7, of7, hP7, k7⟩ := (s7.ext hx).intAt (ms.length - 1 - q) (by rw [HRL.out]; omega)
          subst hP6 hP7
          rw [show ms.getD q 0 = nthI ms q from rfl] at k6
          rw [show mr.getD (ms.length - 1 - q) 0 = nthI mr (ms.length - 1 - q) from rfl, HRV.out q hlt] at k7
          have d1 : IntKind.i64.wrap ((q : Int) + 1) = (q : Int) + 1 := IntWalk.i64_in _ ⟨by omega, by omega⟩
          have d2 : IntKind.i64.wrap ((ms.length : Int) - 1) = (ms.length : Int) - 1 := IntWalk.i64_in _ ⟨by omega, by omega⟩
          have d3 : IntKind.i64.wrap ((ms.length : Int) - 1 - (q : Int)) = ((ms.length - 1 - q : Nat) : Int) := by rw [IntWalk.i64_in _ ⟨by omega, by omega⟩]; omega
          have e1 : ((ms.length - 1 - q : Nat) : Int) < ms.length := by omega
          have c1 : (q : Int) < ms.length := by omega
          generalize ms.length - 1 - q = p at *
          generalize nthI ms q = x at *
          go_wp2
          go_quiet (fail)
          go_wp2
          go_roundw
          case rel => exact ⟨q + 1, by omega, by go_num, hx.drewN _⟩
          case measure => simp [intOf]; omega
        · obtain rfl : q = ms.length := by omega
          have hV := hV1 _ _ _ (q9.ext hx)
          go_wp2_with (first
            | (go_at_call 14; refine hV.mono ?_; rintro e wA ⟨rfl, hxB⟩)
            | (go_at_call 10; refine (awake_any _).mono ?_; rintro e wB ⟨rfl, hxC⟩))
          go_ret
          exact ⟨rfl, hxA.trans (hx.trans (hxB.trans hxC))⟩
  · rw [decide_eq_false hl] at hL
    go_enter Try.func4, Try.ntmps4
    go_wp2_with (first
      | (go_at_call 9; refine hL.mono ?_; rintro e w1 ⟨rfl, rfl⟩)
      | (go_at_call 10; refine (awake_any _).mono ?_; rintro e w2 ⟨rfl, hx2⟩))
    go_ret
    exact ⟨rfl, hxl.trans hx2⟩
end Go.Proofs.Ythmcdlieglollaa
